/-
 Layings of the kit's shelf at this seat's numbers (printed by the kit's own tools).
-/
import Derived.Shelf.Strings.Builder1
import Derived.Shelf.Small.Strs
import Derived.Shelf.Small.Wraps
import Derived.Shelf.Strings.BuilderF
import Derived.Shelf.Strings.BuilderK
import Derived.Shelf.Strconv.Atoi
import Derived.Shelf.Strconv.Itoa0
import Derived.Shelf.Strconv.Itoa1
import Derived.Shelf.LaysM
import Derived.Shelf.Strconv.Itoa2
import Derived.Shelf.Strconv.Itoa3
import Derived.Shelf.Strconv.AtoiErrFast
import Derived.Shelf.Strconv.ParseIntEmpty
import Derived.Shelf.Strconv.AtoiFail
import Derived.Shelf.Strconv.Clone
import Derived.Shelf.Strconv.SyntaxError
import Derived.Shelf.LaysC
import Derived.Shelf.Strconv.ToError
import Derived.Shelf.Strconv.Lower
import Derived.Shelf.Strconv.ParseUint10
import Derived.Shelf.Strconv.ParseUint10Empty
import Derived.Shelf.Strconv.ParseUint10Any
import Derived.Shelf.Strconv.ParseInt10
import Derived.Shelf.Strconv.AtoiLong
import Derived.Shelf.Strconv.AtoiInnerAll
import Derived.Shelf.Strconv.RangeError
import Derived.Shelf.Strconv.ToErrorRange
import Derived.Shelf.Strconv.AtoiAll
import Derived.Shelf.Strconv.ParseUintEmpty
import Derived.Shelf.Strconv.ParseUint10b64
import Derived.Shelf.Strconv.ParseUint10b32
import Derived.Shelf.Strconv.ParseUint10b16
import Derived.Shelf.Strconv.ParseUint10b8
import Derived.Shelf.Strconv.ParseUint10At
import Derived.Shelf.Strings.Search1
import Derived.Shelf.Strings.Prefix
import Derived.Shelf.Bits.Mul64
import Derived.Shelf.Slices.Turned
import Derived.Shelf.Slices.Clone
import Derived.Shelf.Slices.SearchI
import Derived.Shelf.SlicesE.Clone
import Derived.Test.YtnlkemjhgdbfkaaGreatDoorRows
import Derived.Test.YtnlkemjhgdbfkaaGreatDoorCs6
import Derived.Test.YtnlkemjhgdbfkaaGreatDoorCs5
import Derived.Test.YtnlkemjhgdbfkaaGreatDoorCs4
import Derived.Lib.SliceRun
open Go.Proofs.Tryz
set_option linter.unusedVariables false
set_option linter.unusedSimpArgs false
section
namespace Go.Proofs
open Go.Shelf
def Tryz.W9:Go.Shelf.Ren:=⟨fun|169=>145|n=>n,fun|70=>204|9=>9|0=>0|72=>207|37=>205|127=>318|3=>3|5=>5|n=>n,fun|n=>n⟩
theorem Tryz.aL6:Go.Proofs.Lays.n169 prog Tryz.W9:={
 mixed:=by kernel_rfl
 f169:=func145.trans (congrArg some (by kernel_rfl))
 t0:=underlying0
 a0:=isAgg0
 z0:=sizeOf0
 v0:=zeroValue0
 t3:=underlying3
 a3:=isAgg3
 z3:=sizeOf3
 v3:=zeroValue3
 t9:=underlying9
 a9:=isAgg9
 z9:=sizeOf9
 v9:=zeroValue9
 t37:=underlying205
 a37:=isAgg205
 z37:=sizeOf205
 v37:=zeroValue205
 t70:=underlying204
 a70:=isAgg204
 z70:=sizeOf204
 v70:=zeroValue204
 t72:=underlying207
 a72:=isAgg207
 z72:=sizeOf207
 v72:=zeroValue207
 t127:=underlying318
 a127:=isAgg318
 z127:=sizeOf318
 v127:=zeroValue318 }
theorem Tryz.RQ:Builder.Extra prog Tryz.W9:={
 sizeBuilder:=by kernel_rfl
 liesBuilder:=by kernel_rfl
 t5:=underlying5
 a5:=isAgg5
 z5:=sizeOf5
 v5:=zeroValue5
 infoByte:=by kernel_rfl
 cellsByte:=by kernel_rfl
 sizeByte:=by kernel_rfl
 neB5:=by decide }
def Tryz.a7v:Go.Shelf.Ren:=⟨fun|137=>315|217=>385|266=>425|n=>n,fun|9=>9|5=>5|3=>3|n=>n,fun|n=>n⟩
theorem Tryz.aL7:Go.Proofs.Lays.n137 prog Tryz.a7v:={
 mixed:=by kernel_rfl
 f137:=func315.trans (congrArg some (by kernel_rfl))
 f217:=func385.trans (congrArg some (by kernel_rfl))
 f266:=func425.trans (congrArg some (by kernel_rfl))
 t3:=underlying3
 a3:=isAgg3
 z3:=sizeOf3
 v3:=zeroValue3
 t5:=underlying5
 a5:=isAgg5
 z5:=sizeOf5
 v5:=zeroValue5
 t9:=underlying9
 a9:=isAgg9
 z9:=sizeOf9
 v9:=zeroValue9 }
def Tryz.a7w:Go.Shelf.Ren:=⟨fun|103=>317|210=>388|206=>431|n=>n,fun|9=>9|4=>4|24=>344|3=>3|n=>n,fun|n=>n⟩
theorem Tryz.aL8:Go.Proofs.Lays.n103 prog Tryz.a7w:={
 mixed:=by kernel_rfl
 f103:=func317.trans (congrArg some (by kernel_rfl))
 f206:=func431.trans (congrArg some (by kernel_rfl))
 f210:=func388.trans (congrArg some (by kernel_rfl))
 t3:=underlying3
 a3:=isAgg3
 z3:=sizeOf3
 v3:=zeroValue3
 t4:=underlying4
 a4:=isAgg4
 z4:=sizeOf4
 v4:=zeroValue4
 t9:=underlying9
 a9:=isAgg9
 z9:=sizeOf9
 v9:=zeroValue9
 t24:=underlying344
 a24:=isAgg344
 z24:=sizeOf344
 v24:=zeroValue344 }
def Tryz.a45:Go.Shelf.Ren:=⟨fun|171=>210|243=>313|246=>381|283=>417|284=>418|285=>419|286=>420|129=>441|317=>440|318=>442|319=>443|320=>444|337=>451|338=>452|n=>n,fun|3=>3|9=>9|2=>2|4=>4|171=>445|0=>0|53=>383|37=>205|5=>5|173=>448|212=>464|51=>380|20=>20|213=>465|46=>97|232=>479|233=>480|n=>n,fun|17=>1|18=>5|19=>6|n=>n⟩
theorem Tryz.aIc:Go.Proofs.LaysM.n171 prog Tryz.a45:={
 mixed:=by kernel_rfl
 f129:=func441.trans (congrArg some (by kernel_rfl))
 f171:=func210.trans (congrArg some (by kernel_rfl))
 f243:=func313.trans (congrArg some (by kernel_rfl))
 f246:=func381.trans (congrArg some (by kernel_rfl))
 f283:=func417.trans (congrArg some (by kernel_rfl))
 f284:=func418.trans (congrArg some (by kernel_rfl))
 f285:=func419.trans (congrArg some (by kernel_rfl))
 f286:=func420.trans (congrArg some (by kernel_rfl))
 f317:=func440.trans (congrArg some (by kernel_rfl))
 f318:=func442.trans (congrArg some (by kernel_rfl))
 f319:=func443.trans (congrArg some (by kernel_rfl))
 f320:=func444.trans (congrArg some (by kernel_rfl))
 f337:=func451.trans (congrArg some (by kernel_rfl))
 f338:=func452.trans (congrArg some (by kernel_rfl))
 t0:=underlying0
 a0:=isAgg0
 z0:=sizeOf0
 v0:=zeroValue0
 t2:=underlying2
 a2:=isAgg2
 z2:=sizeOf2
 v2:=zeroValue2
 t3:=underlying3
 a3:=isAgg3
 z3:=sizeOf3
 v3:=zeroValue3
 t4:=underlying4
 a4:=isAgg4
 z4:=sizeOf4
 v4:=zeroValue4
 t5:=underlying5
 a5:=isAgg5
 z5:=sizeOf5
 v5:=zeroValue5
 t9:=underlying9
 a9:=isAgg9
 z9:=sizeOf9
 v9:=zeroValue9
 t20:=underlying20
 a20:=isAgg20
 z20:=sizeOf20
 v20:=zeroValue20
 t37:=underlying205
 a37:=isAgg205
 z37:=sizeOf205
 v37:=zeroValue205
 t46:=underlying97
 a46:=isAgg97
 z46:=sizeOf97
 v46:=zeroValue97
 t51:=underlying380
 a51:=isAgg380
 z51:=sizeOf380
 v51:=zeroValue380
 t53:=underlying383
 a53:=isAgg383
 z53:=sizeOf383
 v53:=zeroValue383
 t171:=underlying445
 a171:=isAgg445
 z171:=sizeOf445
 v171:=zeroValue445
 t173:=underlying448
 a173:=isAgg448
 z173:=sizeOf448
 v173:=zeroValue448
 t212:=underlying464
 a212:=isAgg464
 z212:=sizeOf464
 v212:=zeroValue464
 t213:=underlying465
 a213:=isAgg465
 z213:=sizeOf465
 t232:=underlying479
 a232:=isAgg479
 z232:=sizeOf479
 v232:=zeroValue479
 t233:=underlying480
 a233:=isAgg480
 z233:=sizeOf480
 v233:=zeroValue480
 g17:=by kernel_rfl
 g18:=by kernel_rfl
 g19:=by kernel_rfl
 i0:=by kernel_rfl
 i2:=by kernel_rfl
 i3:=by kernel_rfl
 i4:=by kernel_rfl
 i5:=by kernel_rfl
 i9:=by kernel_rfl
 i20:=by kernel_rfl
 i37:=by kernel_rfl
 i46:=by kernel_rfl
 i51:=by kernel_rfl
 i53:=by kernel_rfl
 i171:=by kernel_rfl
 i173:=by kernel_rfl
 i212:=by kernel_rfl
 i232:=by kernel_rfl
 i233:=by kernel_rfl
 m17:=by kernel_rfl
 m18:=by kernel_rfl
 m19:=by kernel_rfl }
def Tryz.a7x:Go.Shelf.Ren:=⟨fun|171=>210|243=>313|246=>381|283=>417|284=>418|285=>419|286=>420|129=>441|317=>440|318=>442|319=>443|320=>444|337=>451|338=>452|n=>n,fun|3=>3|9=>9|2=>2|4=>4|171=>445|0=>0|53=>383|37=>205|5=>5|173=>448|212=>464|51=>380|20=>20|213=>465|46=>97|232=>479|233=>480|n=>n,fun|17=>1|18=>5|19=>6|n=>n⟩
theorem Tryz.aL9:Go.Proofs.Lays.n171 prog Tryz.a7x:={
 mixed:=by kernel_rfl
 f129:=func441.trans (congrArg some (by kernel_rfl))
 f171:=func210.trans (congrArg some (by kernel_rfl))
 f243:=func313.trans (congrArg some (by kernel_rfl))
 f246:=func381.trans (congrArg some (by kernel_rfl))
 f283:=func417.trans (congrArg some (by kernel_rfl))
 f284:=func418.trans (congrArg some (by kernel_rfl))
 f285:=func419.trans (congrArg some (by kernel_rfl))
 f286:=func420.trans (congrArg some (by kernel_rfl))
 f317:=func440.trans (congrArg some (by kernel_rfl))
 f318:=func442.trans (congrArg some (by kernel_rfl))
 f319:=func443.trans (congrArg some (by kernel_rfl))
 f320:=func444.trans (congrArg some (by kernel_rfl))
 f337:=func451.trans (congrArg some (by kernel_rfl))
 f338:=func452.trans (congrArg some (by kernel_rfl))
 t0:=underlying0
 a0:=isAgg0
 z0:=sizeOf0
 v0:=zeroValue0
 t2:=underlying2
 a2:=isAgg2
 z2:=sizeOf2
 v2:=zeroValue2
 t3:=underlying3
 a3:=isAgg3
 z3:=sizeOf3
 v3:=zeroValue3
 t4:=underlying4
 a4:=isAgg4
 z4:=sizeOf4
 v4:=zeroValue4
 t5:=underlying5
 a5:=isAgg5
 z5:=sizeOf5
 v5:=zeroValue5
 t9:=underlying9
 a9:=isAgg9
 z9:=sizeOf9
 v9:=zeroValue9
 t20:=underlying20
 a20:=isAgg20
 z20:=sizeOf20
 v20:=zeroValue20
 t37:=underlying205
 a37:=isAgg205
 z37:=sizeOf205
 v37:=zeroValue205
 t46:=underlying97
 a46:=isAgg97
 z46:=sizeOf97
 v46:=zeroValue97
 t51:=underlying380
 a51:=isAgg380
 z51:=sizeOf380
 v51:=zeroValue380
 t53:=underlying383
 a53:=isAgg383
 z53:=sizeOf383
 v53:=zeroValue383
 t171:=underlying445
 a171:=isAgg445
 z171:=sizeOf445
 v171:=zeroValue445
 t173:=underlying448
 a173:=isAgg448
 z173:=sizeOf448
 v173:=zeroValue448
 t212:=underlying464
 a212:=isAgg464
 z212:=sizeOf464
 v212:=zeroValue464
 t213:=underlying465
 a213:=isAgg465
 z213:=sizeOf465
 t232:=underlying479
 a232:=isAgg479
 z232:=sizeOf479
 v232:=zeroValue479
 t233:=underlying480
 a233:=isAgg480
 z233:=sizeOf480
 v233:=zeroValue480
 g17:=by kernel_rfl
 g18:=by kernel_rfl
 g19:=by kernel_rfl }
def Tryz.a47:Go.Shelf.Ren:=⟨fun|172=>316|244=>386|245=>387|247=>426|279=>427|280=>428|281=>429|282=>430|287=>445|316=>446|171=>210|205=>447|321=>453|322=>454|243=>313|246=>381|283=>417|284=>418|285=>419|286=>420|129=>441|317=>440|318=>442|319=>443|320=>444|337=>451|338=>452|n=>n,fun|9=>9|3=>3|75=>209|76=>210|4=>4|5=>5|167=>454|37=>205|0=>0|85=>455|2=>2|168=>457|53=>383|175=>467|46=>97|210=>470|127=>318|145=>478|143=>476|21=>21|171=>445|173=>448|212=>464|51=>380|20=>20|213=>465|232=>479|233=>480|80=>158|n=>n,fun|15=>3|16=>4|17=>1|18=>5|19=>6|n=>n⟩
theorem Tryz.a0m:Go.Proofs.LaysC.n172 prog Tryz.a47:={
 mixed:=by kernel_rfl
 f129:=func441.trans (congrArg some (by kernel_rfl))
 f171:=func210.trans (congrArg some (by kernel_rfl))
 f172:=func316.trans (congrArg some (by kernel_rfl))
 f205:=func447.trans (congrArg some (by kernel_rfl))
 f243:=func313.trans (congrArg some (by kernel_rfl))
 f244:=func386.trans (congrArg some (by kernel_rfl))
 f245:=func387.trans (congrArg some (by kernel_rfl))
 f246:=func381.trans (congrArg some (by kernel_rfl))
 f247:=func426.trans (congrArg some (by kernel_rfl))
 f279:=func427.trans (congrArg some (by kernel_rfl))
 f280:=func428.trans (congrArg some (by kernel_rfl))
 f281:=func429.trans (congrArg some (by kernel_rfl))
 f282:=func430.trans (congrArg some (by kernel_rfl))
 f283:=func417.trans (congrArg some (by kernel_rfl))
 f284:=func418.trans (congrArg some (by kernel_rfl))
 f285:=func419.trans (congrArg some (by kernel_rfl))
 f286:=func420.trans (congrArg some (by kernel_rfl))
 f287:=func445.trans (congrArg some (by kernel_rfl))
 f316:=func446.trans (congrArg some (by kernel_rfl))
 f317:=func440.trans (congrArg some (by kernel_rfl))
 f318:=func442.trans (congrArg some (by kernel_rfl))
 f319:=func443.trans (congrArg some (by kernel_rfl))
 f320:=func444.trans (congrArg some (by kernel_rfl))
 f321:=func453.trans (congrArg some (by kernel_rfl))
 f322:=func454.trans (congrArg some (by kernel_rfl))
 f337:=func451.trans (congrArg some (by kernel_rfl))
 f338:=func452.trans (congrArg some (by kernel_rfl))
 t0:=underlying0
 a0:=isAgg0
 z0:=sizeOf0
 v0:=zeroValue0
 t2:=underlying2
 a2:=isAgg2
 z2:=sizeOf2
 v2:=zeroValue2
 t3:=underlying3
 a3:=isAgg3
 z3:=sizeOf3
 v3:=zeroValue3
 t4:=underlying4
 a4:=isAgg4
 z4:=sizeOf4
 v4:=zeroValue4
 t5:=underlying5
 a5:=isAgg5
 z5:=sizeOf5
 v5:=zeroValue5
 t9:=underlying9
 a9:=isAgg9
 z9:=sizeOf9
 v9:=zeroValue9
 t20:=underlying20
 a20:=isAgg20
 z20:=sizeOf20
 v20:=zeroValue20
 t21:=underlying21
 a21:=isAgg21
 z21:=sizeOf21
 v21:=zeroValue21
 t37:=underlying205
 a37:=isAgg205
 z37:=sizeOf205
 v37:=zeroValue205
 t46:=underlying97
 a46:=isAgg97
 z46:=sizeOf97
 v46:=zeroValue97
 t51:=underlying380
 a51:=isAgg380
 z51:=sizeOf380
 v51:=zeroValue380
 t53:=underlying383
 a53:=isAgg383
 z53:=sizeOf383
 v53:=zeroValue383
 t75:=underlying209
 a75:=isAgg209
 z75:=sizeOf209
 v75:=zeroValue209
 t76:=underlying210
 a76:=isAgg210
 z76:=sizeOf210
 v76:=zeroValue210
 t85:=underlying455
 a85:=isAgg455
 z85:=sizeOf455
 v85:=zeroValue455
 t127:=underlying318
 a127:=isAgg318
 z127:=sizeOf318
 v127:=zeroValue318
 t143:=underlying476
 a143:=isAgg476
 z143:=sizeOf476
 v143:=zeroValue476
 t145:=underlying478
 a145:=isAgg478
 z145:=sizeOf478
 v145:=zeroValue478
 t167:=underlying454
 a167:=isAgg454
 z167:=sizeOf454
 v167:=zeroValue454
 t168:=underlying457
 a168:=isAgg457
 z168:=sizeOf457
 v168:=zeroValue457
 t171:=underlying445
 a171:=isAgg445
 z171:=sizeOf445
 v171:=zeroValue445
 t173:=underlying448
 a173:=isAgg448
 z173:=sizeOf448
 v173:=zeroValue448
 t175:=underlying467
 a175:=isAgg467
 z175:=sizeOf467
 v175:=zeroValue467
 t210:=underlying470
 a210:=isAgg470
 z210:=sizeOf470
 v210:=zeroValue470
 t212:=underlying464
 a212:=isAgg464
 z212:=sizeOf464
 v212:=zeroValue464
 t213:=underlying465
 a213:=isAgg465
 z213:=sizeOf465
 t232:=underlying479
 a232:=isAgg479
 z232:=sizeOf479
 v232:=zeroValue479
 t233:=underlying480
 a233:=isAgg480
 z233:=sizeOf480
 v233:=zeroValue480
 g15:=by kernel_rfl
 g16:=by kernel_rfl
 g17:=by kernel_rfl
 g18:=by kernel_rfl
 g19:=by kernel_rfl
 t80:=underlying158
 a80:=isAgg158
 z80:=sizeOf158
 v80:=zeroValue158
 i0:=by kernel_rfl
 i2:=by kernel_rfl
 i3:=by kernel_rfl
 i4:=by kernel_rfl
 i5:=by kernel_rfl
 i9:=by kernel_rfl
 i20:=by kernel_rfl
 i21:=by kernel_rfl
 i37:=by kernel_rfl
 i46:=by kernel_rfl
 i51:=by kernel_rfl
 i53:=by kernel_rfl
 i75:=by kernel_rfl
 i76:=by kernel_rfl
 i80:=by kernel_rfl
 i85:=by kernel_rfl
 i127:=by kernel_rfl
 i143:=by kernel_rfl
 i145:=by kernel_rfl
 i167:=by kernel_rfl
 i168:=by kernel_rfl
 i171:=by kernel_rfl
 i173:=by kernel_rfl
 i175:=by kernel_rfl
 i210:=by kernel_rfl
 i212:=by kernel_rfl
 i232:=by kernel_rfl
 i233:=by kernel_rfl
 m15:=by kernel_rfl
 m16:=by kernel_rfl
 m17:=by kernel_rfl
 m18:=by kernel_rfl
 m19:=by kernel_rfl
 c0:=by kernel_rfl
 c2:=by kernel_rfl
 c3:=by kernel_rfl
 c4:=by kernel_rfl
 c5:=by kernel_rfl
 c9:=by kernel_rfl
 c20:=by kernel_rfl
 c21:=by kernel_rfl
 c37:=by kernel_rfl
 c46:=by kernel_rfl
 c51:=by kernel_rfl
 c53:=by kernel_rfl
 c75:=by kernel_rfl
 c76:=by kernel_rfl
 c80:=by kernel_rfl
 c85:=by kernel_rfl
 c127:=by kernel_rfl
 c143:=by kernel_rfl
 c145:=by kernel_rfl
 c167:=by kernel_rfl
 c168:=by kernel_rfl
 c171:=by kernel_rfl
 c173:=by kernel_rfl
 c175:=by kernel_rfl
 c210:=by kernel_rfl
 c212:=by kernel_rfl
 c213:=by kernel_rfl
 c232:=by kernel_rfl
 c233:=by kernel_rfl }
end Go.Proofs
end

section
namespace Go.Proofs.YtnlkemjhgdbfkaaGreatDoor
open Go.Vc
abbrev BdT(b:Nat)(l:List UInt8)(R:List Own):Prop:=Bd 207 5 b l R
theorem aCG:∃ j,prog.info? 207=some j/\j.size=2:=by
 have h:(prog.info? 207).map (·.size)=some 2:=by kernel_rfl
 exact Option.map_eq_some_iff.1 h
set_option maxHeartbeats 1000000 in
set_option maxRecDepth 100000 in
theorem a0n(b w)(h0:w.cell? ⟨b,0,none⟩=some (.pointer (some ⟨b,0,none⟩))):
  Calls prog 243 #[.pointer (some ⟨b,0,none⟩)] w λe w'=>e=.returned (.tuple #[])/\w'=w:=by
 obtain ⟨j,hj,_⟩:=aCG
 go_enter func243,Tryz.ntmps243
 go_wp2
 rw [Lib.run_neq_ptr_same w _ underlying204 hj]
 go_wp2
 go_end0
 exact ⟨rfl,rfl⟩
set_option maxHeartbeats 1000000 in
set_option maxRecDepth 100000 in
theorem XI(b w)(h0:w.cell? ⟨b,0,none⟩=some (.pointer none))(hsh:w.shape? b=some (207,2))(hfz:w.frozen? ⟨b,0,none⟩=false):
  Calls prog 243 #[.pointer (some ⟨b,0,none⟩)] w λe w'=>e=.returned (.tuple #[])/\w'=w.setCell ⟨b,0,none⟩ (.pointer (some ⟨b,0,none⟩)):=by
 obtain ⟨j,hj,hjs⟩:=aCG
 go_enter func243,Tryz.ntmps243
 go_wp2
 rw [Lib.run_to_unsafe w ⟨b,0,none⟩ underlying204 underlying392 hj (by rw [hjs];decide) hsh (Nat.zero_lt_succ 1)];simp only [Result.andThen];rw [Oper.upon_value]
 go_wp2
 rw [run_callFunc_extern func333 (by kernel_rfl) (by kernel_rfl) (by kernel_rfl) (e:=Extern.AbiNoEscape.same) (by kernel_rfl)];rw [Lib.run_noEscape];simp only [Result.andThen];rw [Oper.upon_value]
 go_wp2
 rw [Lib.run_from_unsafe w ⟨b,0,none⟩ underlying392 underlying204 hj hsh (by kernel_rfl)];simp only [Result.andThen];rw [Oper.upon_value]
 go_wp2
 go_end0
 exact ⟨rfl,rfl⟩
theorem a2j{W w S}{Φ:PW}[aB Φ]{b pa v}(hp:pa=.pointer none\/pa=.pointer (some ⟨b,0,none⟩))(c:Ctx W w (.blk b [pa,v] 207 :: S) Φ){K}(hk:∀ w',Ctx W w' (.blk b [.pointer (some ⟨b,0,none⟩),v] 207 :: S) Φ->K (.returned (.tuple #[])) w'):aD F.oR #[.pointer (some ⟨b,0,none⟩)] w K:=by
 have hb:w.heap[b]? = some (.cells #[pa,v] 207 (0,0)):=c.blk 0 rfl;rcases hp with rfl|rfl
 .exact (XI b w (c.get 0 rfl rfl) (by simp [World.shape?,hb]) (by simp [World.frozen?,hb])).mono λe w' ⟨he,hw⟩=>by
   subst he;exact hk w' (c.put 0 hw rfl)
 .exact (a0n b w (c.get 0 rfl rfl)).mono λe w' ⟨he,hw⟩=>by
   subst he;subst hw;exact hk w' c
theorem aEq:∃ i,prog.info? 5=some i/\i.zero=some (.int .u8 0)/\i.size=1/\i.bytes=1:=by
 have h:(prog.info? 5).map (λi=>(i.zero,i.size,i.bytes))=some (some (.int .u8 0),1,1):=by kernel_rfl
 obtain ⟨i,hi,he⟩:=Option.map_eq_some_iff.1 h;simp only [Prod.mk.injEq] at he;exact ⟨i,hi,he⟩
theorem a0o(s):Lib.strCells s=Lib.byteCells s.data.toList:=rfl
theorem XJ{W w S R}{Φ:PW}[aB Φ]{b l}(s)(h:BdT b l R)(c:Ctx W w (R++S) Φ)(hlen:l.length+s.size<=100000000000){K}(hk:∀ R' w',BdT b (l++s.data.toList) R'->Ctx W w' (R'++S) Φ->K (.returned (.tuple #[.int .i64 s.size,.nilIface])) w'):aD F.iT #[.pointer (some ⟨b,0,none⟩),.string s] w K:=by
 obtain ⟨pa,p,cap,hpa,rfl⟩:=h;obtain ⟨i,hi,hz,hsz,hby⟩:=aEq;refine gC (sL b 0 s (J:=K∘.returned) c ?_);refine λw G c=>a2j hpa c λw c=>⟨rfl,[.blk b [.pointer (some ⟨b,0,none⟩),.slice p l.length cap] 207,.buf p l.length cap (Lib.byteCells l) 5 1]++S,Φ,aM,c,λw G c=>⟨p,l.length,cap,c.get 0 rfl rfl,λw G c=>?_⟩⟩;obtain ⟨p',cap',w',hrun,c'⟩:=Ctx.aQu (P:=prog) (t:=205) (u:=9) (ty:=205) (kb:=#[false,false]) (c.swap) underlying205 underlying9 hi hz hsz hby s (by omega) (by unfold maxLen;omega)
 refine ⟨p',_,cap',w',hrun,[.blk b [.pointer (some ⟨b,0,none⟩),.slice p l.length cap] 207,.buf p' (l.length+s.size) cap' (Lib.byteCells l++Lib.strCells s) 5 1]++S,Φ,aM,c'.swap,λw G c=>⟨c.can 0 rfl (by simp),λw' hw'=>?_⟩⟩;refine ⟨[.blk b [.pointer (some ⟨b,0,none⟩),.slice p' (l.length+s.size) cap'] 207,.buf p' (l.length+s.size) cap' (Lib.byteCells l++Lib.strCells s) 5 1]++S,Φ,aM,c.put 0 hw' rfl,λw G c=>hk [.blk b [.pointer (some ⟨b,0,none⟩),.slice p' (l.length+s.size) cap'] 207,.buf p' (l.length+s.size) cap' (Lib.byteCells l++Lib.strCells s) 5 1] w ⟨_,p',cap',.inr rfl,?_⟩ c.left⟩
 have hl:(l++s.data.toList).length=l.length+s.size:=by rw [List.length_append,Array.length_toList];rfl
 rw [hl,a0o,Lib.byteCells_append]
theorem aAv{W w S R}{Φ:PW}[aB Φ]{b l}(h:BdT b l R)(c:Ctx W w (R++S) Φ){K}(hk:∀ w',Ctx W w' S Φ->K (.returned (.string ⟨l.toArray⟩)) w'):aD F.sH #[.pointer (some ⟨b,0,none⟩)] w K :=
 Bd.string Tryz.aL6 Tryz.RQ h c hk
def tK(rB rO:Nat)(w:World)(J:Value->World->Prop):Prop :=
 ∃ (n0:Int),w.cell? (Addr.mk rB (rO+4) none)=some (.int .i64 n0)/\J (.int .i64 n0) w
theorem A6(rB rO:Nat)(w:World)(J:Value->World->Prop)(h:tK rB rO w J):aD F.gZ #[.pointer (some ⟨rB,rO,none⟩)] w λe w'=>∃ v,e=.returned v/\J v w' :=
 CK (H:={ keep:=some [0,2] }) (by rw [show vcF prog { keep:=some [0,2] } F.gZ #[.pointer (some ⟨rB,rO,none⟩)] w J=tK rB rO w J by kernel_rfl];exact h)
def D6(n:Int)(a:Int)(b:Int)(w:World)(J:Value->World->Prop):Prop :=
 J (.bool (decide (a<=n)&&decide (n<=b))) w
theorem IY(n:Int)(a:Int)(b:Int)(w:World)(J:Value->World->Prop)(h:D6 n a b w J):aD F.dM #[.int .i64 n,.int .i64 a,.int .i64 b] w λe w'=>∃ v,e=.returned v/\J v w' :=
 CK (H:={ keep:=some [0,1,2,6] }) (by rw [show vcF prog { keep:=some [0,1,2,6] } F.dM #[.int .i64 n,.int .i64 a,.int .i64 b] w J=D6 n a b w J by kernel_rfl];exact h)
def tL(rB rO:Nat)(n:Int)(w:World)(J:Value->World->Prop):Prop :=
 Br (decide (n=0)) (J (.int .i64 0) w) (∃ (p0:Option Addr) (k1 k2:Nat),w.cell? (Addr.mk rB (rO+3) none)=some (.slice p0 k1 k2)/\aY (n - 1)/\(0<=n - 1/\n - 1<(↑k1:Int))/\vJ none p0 λk3 k4=>∃ (n5:Int),w.cell? (Addr.mk k3 (k4+(n - 1).toNat*2) none)=some (.int .i64 n5)/\J (.int .i64 n5) w)
theorem A7(rB rO:Nat)(n:Int)(w:World)(J:Value->World->Prop)(h:tL rB rO n w J):aD F.cH #[.pointer (some ⟨rB,rO,none⟩),.int .i64 n] w λe w'=>∃ v,e=.returned v/\J v w' :=
 CK (H:={ keep:=some [0,1,4,6] }) (by rw [show vcF prog { keep:=some [0,1,4,6] } F.cH #[.pointer (some ⟨rB,rO,none⟩),.int .i64 n] w J=tL rB rO n w J by kernel_rfl];exact h)
def r7(rB rO:Nat)(w:World)(J:Value->World->Prop):Prop :=
 ∃ (n0:Int),w.cell? (Addr.mk rB (rO+5) none)=some (.int .i64 n0)/\J (.int .i64 n0) w
theorem xL(rB rO:Nat)(w:World)(J:Value->World->Prop)(h:r7 rB rO w J):aD F.dW #[.pointer (some ⟨rB,rO,none⟩)] w λe w'=>∃ v,e=.returned v/\J v w' :=
 CK (H:={ keep:=some [0,2] }) (by rw [show vcF prog { keep:=some [0,2] } F.dW #[.pointer (some ⟨rB,rO,none⟩)] w J=r7 rB rO w J by kernel_rfl];exact h)
theorem gl{W w Q T G}{Φ:PW}(c:Ctx W w (Q++T++G) Φ):Ctx W w (Q++(T++G)) Φ:=c.re (aX _ _ _)
theorem gr{W w Q T G}{Φ:PW}(c:Ctx W w (Q++(T++G)) Φ):Ctx W w (Q++T++G) Φ:=c.re (aX _ _ _).symm
theorem mid{W w Q S a}{Φ:PW}[aB Φ](c:Ctx W w (a :: (Q++S)) Φ):Ctx W w (Q++a :: S) Φ:=c.perm List.perm_middle.symm
theorem front{W w Q S a}{Φ:PW}[aB Φ](c:Ctx W w (Q++a :: S) Φ):Ctx W w (a :: (Q++S)) Φ:=c.perm List.perm_middle
theorem sink{W w Q T G a}{Φ:PW}[aB Φ](c:Ctx W w (a :: (Q++T)++G) Φ):Ctx W w (Q++a :: T++G) Φ:=c.perm (List.Perm.append_right G List.perm_middle.symm)
theorem lift{W w Q T G a}{Φ:PW}[aB Φ](c:Ctx W w (Q++a :: T++G) Φ):Ctx W w (a :: (Q++T)++G) Φ:=c.perm (List.Perm.append_right G List.perm_middle)
theorem aId{W w Q T G}{Φ:PW}[aB Φ](c:Ctx W w (Q++T++G) Φ):Ctx W w (Q++G) (λ_ _=>True):=(c.weak λ_ _ _=>trivial).sub (List.Sublist.append_right (List.sublist_append_left _ _) _)
def aZ:List bT->List Value
 | []=>[]
 | x :: l=>.int .i64 x.term :: .string x.data :: aZ l
def bT.Ok(x:bT):Prop:=aY x.term/\x.data.size<=maxLen
theorem a0p:∀ l:List bT,(aZ l).length=l.length*2
 | []=>rfl
 | x :: l=>by simp only [aZ,List.length_cons,a0p l];omega
theorem RR:∀ a b:List bT,aZ (a++b)=aZ a++aZ b
 | [],b=>rfl
 | x :: a,b=>by simp only [List.cons_append,aZ,RR a b]
theorem a3j:∀ (l:List bT) (k:Nat),(aZ l).drop (k*2)=aZ (l.drop k)
 | l,0=>by simp
 | [],k+1=>by simp [aZ]
 | x :: l,k+1=>by
  rw [show (k+1)*2=k*2+1+1 by omega];simp only [aZ,List.drop_succ_cons];exact a3j l k
theorem a48{l i}(h:i<l.length):((aZ l).drop (i*2)).take 2=[.int .i64 l[i].term,.string l[i].data]:=by
 rw [a3j,List.drop_eq_getElem_cons h];rfl
theorem aIe{l i}(h:i<l.length):(aZ l)[i*2]? = some (.int .i64 l[i].term):=by
 have h1:=a48 h;have:(((aZ l).drop (i*2)).take 2)[0]? = some (.int .i64 l[i].term):=by rw [h1];rfl
 rwa [List.getElem?_take_of_lt (by omega),List.getElem?_drop,Nat.add_zero] at this
theorem aCH{M w}{x:bT}(h:x.Ok):Gv.rep M w [.int .i64 x.term,.string x.data] x:=⟨[_],_,rfl,⟨rfl,h.1⟩,rfl,h.2⟩
theorem D7{M w cs}{x:bT}(h:Gv.rep M w cs x):cs=[.int .i64 x.term,.string x.data]/\x.Ok:=by
 obtain ⟨_,_,rfl,⟨rfl,h1⟩,rfl,h2⟩:=h;exact ⟨rfl,h1,h2⟩
theorem aCI(M w cs)(x:bT)(h:Gv.rep M w cs x):(cs.all λu=>nM u)=true:=by
 rw [(D7 h).1];rfl
theorem uF{M w l}(h:∀ x∈l,x.Ok):dP M w (aZ l) l:=by
 refine ⟨a0p l,λj hj=>?_⟩;rw [show (Gv.ty bT).size=2 from rfl,a48 hj];exact aCH (h _ (List.getElem_mem hj))
theorem a0q{M w cs l}(h:dP M w cs l):cs=aZ l/\∀ x∈l,x.Ok:=by
 refine ⟨?_,λx hx=>?_⟩
 .apply List.ext_getElem?;intro i;by_cases hi:i<cs.length
  .have hl:=h.1;rw [show (Gv.ty bT).size=2 from rfl] at hl;have hj:i / 2<l.length:=by omega
   have h1:=(D7 (h.2 (i / 2) hj)).1;rw [show (Gv.ty bT).size=2 from rfl,<-a48 hj] at h1;have h2:((cs.drop (i / 2*2)).take 2)[i % 2]? = (((aZ l).drop (i / 2*2)).take 2)[i % 2]? := by rw [h1]
   rw [List.getElem?_take_of_lt (by omega),List.getElem?_take_of_lt (by omega),List.getElem?_drop,List.getElem?_drop] at h2
   rwa [show i / 2*2+i % 2=i by omega] at h2
  .have hl:=h.1;rw [show (Gv.ty bT).size=2 from rfl] at hl;rw [List.getElem?_eq_none (by omega),List.getElem?_eq_none (by rw [a0p];omega)]
 .obtain ⟨j,hj,rfl⟩:=List.getElem_of_mem hx;exact (D7 (h.2 j hj)).2
abbrev dY.cells(r:dY)(p:Option Addr)(c:Nat):List Value:=[.int .i64 r.id,.int .i64 r.term,.int .i64 r.aO,.slice p r.log.length c,.int .i64 r.role,.int .i64 r.aE,.bool (r.cK 0),.bool (r.cK 1),.bool (r.cK 2),.int .i64 (r.next 0),.int .i64 (r.next 1),.int .i64 (r.next 2),.int .i64 (r.gJ 0),.int .i64 (r.gJ 1),.int .i64 (r.gJ 2)]
abbrev aS(b:Nat)(r:dY)(p:Option Addr)(c:Nat):List Own:=[.blk b (r.cells p c) 278,.buf p r.log.length c (aZ r.log) 216 2]
structure a0r(w:World)(b:Nat)(r:dY)(p:Option Addr)(c:Nat):Prop where
 row:bM w b 0 (r.cells p c)
 log:∀ j v,(aZ r.log)[j]? = some v->∃ g,p=some ⟨g,0,none⟩/\w.cell? ⟨g,j,none⟩=some v
theorem EN{W w S}{Φ:PW}{b r p c}(h:Ctx W w (aS b r p c++S) Φ):a0r w b r p c :=
 ⟨h.DV 0 rfl,λj v hj=>by
  obtain ⟨g,hg,_,h2⟩:=h.oG 1 rfl (by have:=(List.getElem?_eq_some_iff.1 hj).1;omega);exact ⟨g,hg,(h2 _ _ hj).1⟩⟩
theorem a0r.drew{w b r p c}(h:a0r w b r p c)(n):a0r (w.drewN n) b r p c :=
 ⟨((lW.refl [] w).drewN n).row h.row (by simp),λj v hj=>by
  obtain ⟨g,hg,h2⟩:=h.log j v hj;exact ⟨g,hg,((lW.refl [] w).drewN n).cell h2 (by simp)⟩⟩
theorem a0r.at{w b r p c}(h:a0r w b r p c)(k){v}(hv:(r.cells p c)[k]? = some v):w.cell? ⟨b,k,none⟩=some v:=by
 have hlt:=(List.getElem?_eq_some_iff.1 hv).1;have:=h.row k hlt;rw [Nat.zero_add] at this;rw [this,<-hv,List.getElem?_eq_getElem hlt]
theorem oL(n a b):Quiet prog F.dM #[.int .i64 n,.int .i64 a,.int .i64 b] (.bool (decide (a<=n)&&decide (n<=b))) :=
 quiet_of (λw J h=>IY n a b w J h) λw=>⟨rfl,rfl⟩
theorem vV{l k}(h:k<l.length):bE l (k+1)=l[k].term:=by
 simp only [bE,List.getElem?_eq_getElem h]
theorem aIf{w b r p c}(h:a0r w b r p c){n:Int}{k:Nat}(hn:n=k)(hk:k<=r.log.length)(h4:r.log.length<=4000):
  aD F.cH #[.pointer (some ⟨b,0,none⟩),.int .i64 n] w λe w'=>e=.returned (.int .i64 (bE r.log k))/\w'=w:=by
 subst hn;refine (A7 b 0 k w (λu w'=>u=.int .i64 (bE r.log k)/\w'=w) ?_).mono λe w' ⟨v,h1,h2,h3⟩=>⟨by rw [h1,h2],h3⟩;refine Br.intro (λh0=>?_) (λh0=>?_)
 .have h0:k=0:=by have:=eR h0;omega
  subst h0;exact ⟨rfl,rfl⟩
 .obtain ⟨j,rfl⟩:∃ j,k=j+1:=⟨k - 1,by have:=dD h0;omega⟩;have hj:j<r.log.length:=by omega
  obtain ⟨g,hg,hc⟩:=h.log _ _ (aIe hj);refine ⟨p,r.log.length,c,by rw [Nat.zero_add];exact h.at 3 rfl,by unfold aY;omega,by omega,aW g 0 hg ⟨r.log[j].term,?_,?_,rfl⟩⟩
  .rw [show (((j+1:Nat):Int) - 1).toNat=j by omega,Nat.zero_add];exact hc
  .rw [vV hj]
theorem a5a{w b r p c}(h:a0r w b r p c){n:Int}{k:Nat}(hn:n=k)(hk:k<=r.log.length)(h4:r.log.length<=4000){w0}(e:∃ m,w0=w.drewN m):
  aD F.cH #[.pointer (some ⟨b,0,none⟩),.int .i64 n] w0 λe w'=>e=.returned (.int .i64 (bE r.log k))/\∃ m,w'=w.drewN m:=by
 obtain ⟨m,rfl⟩:=e;exact (aIf (h.drew m) hn hk h4).mono λe w' ⟨h1,h2⟩=>⟨h1,m,h2⟩
theorem a0s{W w S}{Φ:PW}[aB Φ]{b r p c}(cx:Ctx W w (aS b r p c++S) Φ){n:Int}{k:Nat}(hn:n=k)(hk:k<=r.log.length)(h4:r.log.length<=4000){K}(hK:∀ w',Ctx W w' (aS b r p c++S) Φ->K (.returned (.int .i64 (bE r.log k))) w'):aD F.cH #[.pointer (some ⟨b,0,none⟩),.int .i64 n] w K :=
 (aIf (EN cx) hn hk h4).mono λe w' ⟨h1,h2⟩=>by subst h2;rw [h1];exact hK _ cx
abbrev lJ(x:Int):Value:=.int .i64 x
def RS(q:Int->Bool):Nat->List Int->Int
 | _,[] => -1
 | i,x :: r=>if q x=true then i else RS q (i+1) r
theorem aAw(q)(l:List Int)(i)(hi:i<l.length):RS q i (l.drop i)=if q l[i]=true then (i:Int) else RS q (i+1) (l.drop (i+1)):=by
 rw [List.drop_eq_getElem_cons hi];rfl
theorem ints_at{l:List Int}{i}(h:i<l.length):(l.map lJ)[i]? = some (.int .i64 l[i]):=by rw [List.getElem?_map,List.getElem?_eq_getElem h];rfl
theorem aAx{W w S}{Φ:PW}[aB Φ]{k l t}(c:Ctx W w (.blk k (l.map lJ) t :: S) Φ)(n cap)(hn:n=l.length)(f cp q)(hlen:l.length<=1000000)(hf:qZ prog f=true)(hq:∀ x,cS Φ prog f (Array.mk (.int .i64 x :: cp.toList)) (.bool (q x))){K}(hk:∀ w',Ctx W w' (.blk k (l.map lJ) t :: S) Φ->K (.returned (.int .i64 (RS q 0 l))) w'):
  aD F.kH #[.slice (some ⟨k,0,none⟩) n cap,.func (.func f) #[] cp] w K:=by
 subst hn;refine gC (vQ (some ⟨k,0,none⟩) l.length cap f cp (J:=K∘.returned) c ?_);refine dN (λn R' aU m=>∃ i:Nat,n=i/\i<=l.length/\R'=.blk k (l.map lJ) t :: S/\aU=Φ/\m=l.length - i/\RS q 0 l=RS q i (l.drop i)) ⟨⟨_,Φ,_,aM,λw F c=>c,0,rfl,Nat.zero_le _,rfl,rfl,rfl,rfl⟩,?_⟩;rintro n R1 cF m _ ⟨i,rfl,hi,rfl,rfl,rfl,hor⟩;refine Br.intro (λhlt=>?_) (λhge=>λw G cx=>?_)
 .have hlt:i<l.length:=by simpa using hlt
  rw [aAw q l i hlt] at hor;refine ⟨by omega,aW k 0 rfl λw G cx=>⟨l[i],by rw [Int.toNat_natCast,Nat.zero_add];exact cx.get 0 rfl (ints_at hlt),λw G cx=>⟨hf,(hq l[i]).use cx λw cx=>⟨_,rfl,_,cF,aM,cx,Br.intro (λh=>λw G cx=>?_) (λh=>⟨by unfold aY;omega,_,cF,l.length - (i+1),aM,λw F c=>c,⟨i+1,rfl,hlt,rfl,rfl,rfl,?_⟩,by omega⟩)⟩⟩⟩⟩
  .have:=hk w cx.left;rw [hor,if_pos h] at this;exact this
  .rw [hor,if_neg (by rw [h];simp)]
 .have hge:i=l.length:=Nat.le_antisymm hi (by simpa using hge);have:=hk w cx.left;rw [hor,hge,List.drop_length] at this;exact this
theorem aAy{W:World}{b k0:Nat}{r:dY}{p:Option Addr}{c:Nat}{Φ:PW}[aB Φ](x:Int):
  cS (j8 W (.blk k0 [.pointer (some ⟨b,0,none⟩)] 130 :: aS b r p c) Φ) prog F.kF (Array.mk (.int .i64 x :: (#[.pointer (some ⟨k0,0,none⟩)]:Array Value).toList)) (.bool (decide (x=r.id))):=by
 refine j7 (vP x k0 0) λW' R=>?_;have h1:∀ {M w},j8 W (.blk k0 [.pointer (some ⟨b,0,none⟩)] 130 :: aS b r p c) Φ M w->w.cell? ⟨k0,0,none⟩=some (.pointer (some ⟨b,0,none⟩)):=fun {M w} h=>by
  have:=(h.parked (o:=.blk k0 [.pointer (some ⟨b,0,none⟩)] 130) (by simp)).1;exact (show wY w k0 [.pointer (some ⟨b,0,none⟩)] 130 from this).DU rfl
 have h2:∀ {M w},j8 W (.blk k0 [.pointer (some ⟨b,0,none⟩)] 130 :: aS b r p c) Φ M w->w.cell? ⟨b,0,none⟩=some (.int .i64 r.id):=fun {M w} h=>by
  have:=(h.parked (o:=.blk b (r.cells p c) 278) (by simp)).1;exact (show wY w b (r.cells p c) 278 from this).DU rfl
 exact λw G cx=>⟨some ⟨b,0,none⟩,h1 cx.uX,aW b 0 rfl λw G cx=>⟨r.id,h2 cx.uX,λw G cx=>⟨rfl,cx.left⟩⟩⟩
theorem RT{P ats ty cs args v w w'}(h:(Builtin.clear_ ats ty args).run P w=.ok v w'):Sem.run P (builtin Builtin.clear ats ty cs args) w=.ok (.value v) w':=by
 unfold builtin;simp only [Sem.run_bind,h,Result.andThen,Sem.run_pure]
theorem aIg(vs):∀ (a b:List Value) (n:Nat),n=a.length->vs.length=b.length->nN (a++b) n vs=a++vs:=by
 intro a b n hn hl;subst hn;apply List.ext_getElem?;intro i;by_cases hi:i<a.length
 .rw [sM _ _ _ _ (.inl hi),List.getElem?_append_left hi,List.getElem?_append_left hi]
 .by_cases hi2:i<a.length+vs.length
  .obtain ⟨j,rfl⟩:∃ j,i=a.length+j:=⟨i - a.length,by omega⟩;rw [RP _ _ _ _ (by omega) (by rw [List.length_append];omega),List.getElem?_append_right (by omega),show a.length+j - a.length=j by omega]
  .rw [List.getElem?_eq_none (by rw [IX,List.length_append];omega),List.getElem?_eq_none (by rw [List.length_append];omega)]
theorem aWk:∀ w:World,(zeroValue 3).run prog w=.ok (.int .i64 0) w:=λw=>by kernel_rfl
theorem a7y{W w S}{Φ:PW}[aB Φ]{k}{l:List Int}(c:Ctx W w (.blk k (l.map lJ) 3 :: S) Φ)(f cp q n)(hn:n=l.length)(h0:0<l.length)(hlen:l.length<=1000000)(hf:qZ prog f=true)(hq:∀ x,cS Φ prog f (Array.mk (.int .i64 x :: cp.toList)) (.bool (q x)))(hsome:l.any q=true){K}(hk:∀ w' rest,Ctx W w' (.blk k ((l.filter λx => !q x).map lJ++rest) 3 :: S) Φ->K (.returned (.slice (some ⟨k,0,none⟩) (l.filter λx => !q x).length l.length)) w'):
  aD F.jG #[.slice (some ⟨k,0,none⟩) n n,.func (.func f) #[] cp] w K:=by
 subst hn;have hfind:∀ (l:List Int) (i:Nat),l.any q=true->∃ j:Nat,RS q i l=((i+j:Nat):Int)/\∃ h:j<l.length,q l[j]=true/\∀ x∈l.take j,q x=false:=by
  intro l
  induction l with
  | nil=>intro i h;simp at h
  | cons x r ih =>
   intro i h;cases hx:q x with
   | true=>exact ⟨0,by unfold RS;rw [if_pos hx];rfl,by simp,by simpa using hx,by simp⟩
   | false =>
    rw [List.any_cons,hx,Bool.false_or] at h;obtain ⟨j,h1,h2,h3,h4⟩:=ih (i+1) h;refine ⟨j+1,?_,by simp;omega,by simpa using h3,λy hy=>?_⟩
    .unfold RS;rw [if_neg (by rw [hx];simp),h1];omega
    .rw [List.take_succ_cons] at hy;rcases List.mem_cons.1 hy with rfl|hy
     .exact hx
     .exact h4 y hy
 obtain ⟨j0,hj0,hj1,hj2,hj3⟩:=hfind l 0 hsome;rw [Nat.zero_add] at hj0;refine gC (uD (some ⟨k,0,none⟩) l.length l.length f cp (J:=K∘.returned) c ?_);refine λw G cx=>aAx (S:=S++G) cx l.length l.length rfl f cp q hlen hf hq λw cx=>⟨_,rfl,.blk k (l.map lJ) 3 :: S,Φ,aM,cx,?_⟩;rw [hj0];refine Br.intro (λh=>by have:=eR h;omega) (λ_=>⟨by unfold aY;omega,?_⟩);have aQw:(l.take j0).filter (λx => !q x)=l.take j0:=List.filter_eq_self.2 λx hx=>by rw [hj3 x hx];rfl
 have hstart:(l.take (j0+1)).filter (λx => !q x)=l.take j0:=by
  rw [List.take_succ_eq_append_getElem hj1,List.filter_append,aQw];simp [hj2]
 refine dN (λa n R' aU m=>∃ (i j:Nat) (cs:List Value),a=i/\n=j/\j<=l.length/\i<j/\R'=.blk k cs 3 :: S/\aU=Φ/\m=l.length - j/\cs.length=l.length/\i=((l.take j).filter λx => !q x).length/\cs.take i=((l.take j).filter λx => !q x).map lJ/\cs.drop j=(l.map lJ).drop j)
  ⟨⟨_,Φ,_,aM,λw G cx=>cx,j0,j0+1,l.map lJ,rfl,by omega,by omega,by omega,rfl,rfl,rfl,by simp,by rw [hstart];simp;omega,by rw [hstart,List.map_take],rfl⟩,?_⟩
 rintro _ _ R1 cF m _ ⟨i,j,cs,rfl,rfl,hjl,hij,rfl,rfl,rfl,tC,hi,hct,hcd⟩;refine Br.intro (λhlt=>?_) (λhge=>?_)
 .have hlt:j<l.length:=by simpa using hlt
  have hcj:cs[j]? = some (.int .i64 l[j]):=by
   have:(cs.drop j)[0]? = ((l.map lJ).drop j)[0]? := by rw [hcd]
   rw [List.getElem?_drop,List.getElem?_drop,Nat.add_zero,ints_at hlt] at this;exact this
  have hts:(l.take (j+1)).filter (λx => !q x)=(l.take j).filter (λx => !q x)++(if q l[j]=true then [] else [l[j]]):=by
   rw [List.take_succ_eq_append_getElem hlt,List.filter_append];exact congrArg _ (by cases h:q l[j]<;>simp [h])
  refine ⟨by omega,aW k 0 rfl λw G cx=>⟨l[j],by rw [Int.toNat_natCast,Nat.zero_add];exact cx.get 0 rfl hcj,λw G cx=>⟨hf,(hq l[j]).use cx λw cx=>⟨_,rfl,_,cF,aM,cx,Br.intro (λh=>⟨by omega,aW k 0 rfl λw G cx=>⟨cx.can 0 rfl (by rw [Int.toNat_natCast];omega),λw' hw'=>?_⟩⟩) (λh=>?_)⟩⟩⟩⟩
  .rw [Int.toNat_natCast,Nat.zero_add] at hw';have jZ:=cx.put 0 hw' rfl;have h:q l[j]=false:=by simpa using h
   rw [if_neg (by rw [h];simp)] at hts;refine ⟨.blk k (cs.set i (.int .i64 l[j])) 3 :: S,cF,aM,jZ,by unfold aY;omega,by unfold aY;omega,_,cF,l.length - (j+1),aM,λw G cx=>cx,⟨i+1,j+1,cs.set i (.int .i64 l[j]),by omega,by omega,hlt,by omega,rfl,rfl,rfl,by simp [tC],by rw [hts,List.length_append,<-hi];rfl,?_,?_⟩,by omega⟩
   .rw [hts,List.map_append,<-hct,List.take_succ_eq_append_getElem (by simp [tC];omega),List.take_set_of_le (Nat.le_refl _),List.getElem_set_self];rfl
   .rw [List.drop_set_of_lt (by omega)];have:=congrArg (List.drop 1) hcd;rw [List.drop_drop,List.drop_drop] at this;exact this
  .have h:q l[j]=true:=by simpa using h
   rw [if_pos h,List.append_nil] at hts;refine ⟨by unfold aY;omega,_,cF,l.length - (j+1),aM,λw G cx=>cx,⟨i,j+1,cs,rfl,by omega,hlt,by omega,rfl,rfl,rfl,tC,by rw [hts];exact hi,by rw [hts];exact hct,?_⟩,by omega⟩;have:=congrArg (List.drop 1) hcd;rw [List.drop_drop,List.drop_drop] at this;exact this
 .have hge:j=l.length:=Nat.le_antisymm hjl (by simpa using hge);subst hge;rw [List.take_length] at hi hct;refine ⟨by omega,λw G cx=>?_⟩;have hne:¬ l.length=i:=by omega
  have hsub:dA (some ⟨k,0,none⟩) 1 (i:Int).toNat l.length=some ⟨k,i,none⟩:=by
   unfold dA;rw [Int.toNat_natCast,if_neg hne];simp [Addr.add];intro h;exact h.symm
  rw [hsub,Int.toNat_natCast];have hb:=cx.blk 0 rfl;have hrun:=Lib.run_clear_slice (P:=prog) w 37 3 0 (.int .i64 0) underlying37 aWk rfl rfl k i (l.length - i) (l.length - i) (by omega) (λt ht=>(cx.can 0 rfl (o:=i) (n:=l.length - i) (by omega) t ht).1) (λt ht=>(cx.can 0 rfl (o:=i) (n:=l.length - i) (by omega) t ht).2);refine ⟨_,RT hrun,.blk k (nN cs i (List.replicate (l.length - i) (.int .i64 0))) 3 :: S,cF,aM,cx.FL 0 rfl rfl,by omega,λw G cx=>?_⟩
  have hcs:cs=(l.filter λx => !q x).map lJ++cs.drop i:=by rw [<-hct,List.take_append_drop]
  have e1:nN cs i (List.replicate (l.length - i) (.int .i64 0))=(l.filter λx => !q x).map lJ++List.replicate (l.length - i) (.int .i64 0):=by
   conv=>lhs;rw [hcs]
   exact aIg _ _ _ _ (by rw [List.length_map];exact hi) (by simp [tC])
  rw [e1] at cx;have e2:dA (some ⟨k,0,none⟩) 1 0 l.length=some ⟨k,0,none⟩:=by
   unfold dA;split
   .rfl
   .simp [Addr.add]
  rw [e2,hi];exact hk w _ cx.left
theorem OB{W w S}{Φ:PW}[aB Φ]{b r p c}(hid:r.id<=2)(cx:Ctx W w (aS b r p c++S) Φ){K}(hK:∀ k rest w',Ctx W w' (.blk k ((aT r.id).map (λx:Nat=>lJ (x:Int))++rest) 3 :: (aS b r p c++S)) Φ->K (.returned (.slice (some ⟨k,0,none⟩) 2 3)) w'):
  aD F.fY #[.pointer (some ⟨b,0,none⟩)] w K:=by
 refine gC (xH b 0 (J:=K∘.returned) cx ?_);intro k0 k1 w G cx;have jZ:Ctx W w ((.blk k0 [.pointer (some ⟨b,0,none⟩)] 130 :: aS b r p c)++(.blk k1 ([0,1,2].map lJ) 3 :: (S++G))) Φ:=by
  refine cx.perm ?_;show (Own.blk k1 [.int .i64 0,.int .i64 1,.int .i64 2] 3 :: ((Own.blk k0 [.pointer (some ⟨b,0,none⟩)] 130 :: aS b r p c)++S++G)).Perm _;rw [aX];exact List.perm_middle.symm
 have hst:aB (j8 W (.blk k0 [.pointer (some ⟨b,0,none⟩)] 130 :: aS b r p c) Φ):=aM;refine a7y jZ.aside F.kF #[.pointer (some ⟨k0,0,none⟩)] (λx:Int=>decide (x=(r.id:Int))) 3 rfl (by simp) (by simp) (by kernel_rfl) (λx=>aAy x) ?_ λw rest cx=>?_
 .have:r.id=0\/r.id=1\/r.id=2:=by omega
  rcases this with h|h|h<;>rw [h]<;>rfl
 .have aQw:([0,1,2]:List Int).filter (λx:Int => !decide (x=(r.id:Int)))=(aT r.id).map (λx:Nat=>(x:Int)):=by
   have:r.id=0\/r.id=1\/r.id=2:=by omega
   rcases this with h|h|h<;>rw [h]<;>rfl
  rw [aQw] at cx ⊢;have hl:((aT r.id).map (λx:Nat=>(x:Int))).length=2:=by unfold aT;split;rfl;split<;>rfl
  rw [hl];refine ⟨some ⟨k1,0,none⟩,2,3,rfl,.blk k1 ((aT r.id).map (λx:Nat=>lJ (x:Int))++rest) 3 :: (aS b r p c++S),Φ,aM,?_,λw G cx=>hK k1 rest w cx.left⟩;have CD:=cx.AX;rw [List.map_map] at CD;refine Ctx.perm (CD.sub (S':=aS b r p c++(.blk k1 ((aT r.id).map (λx:Nat=>lJ (x:Int))++rest) 3 :: (S++G))) (List.sublist_cons_self _ _)) ?_;refine List.perm_middle.trans (List.Perm.cons _ ?_);rw [<-aX];exact List.Perm.refl _
abbrev bQ.cells(x:bQ)(p:Option Addr)(c:Nat):List Value:=[.int .i64 x.kind,.int .i64 x.src,.int .i64 x.to,.int .i64 x.term,.int .i64 x.index,.int .i64 x.prev,.int .i64 x.aE,.bool x.yes,.slice p x.aF.length c]
abbrev bQ.v(x:bQ)(p:Option Addr)(c:Nat):Value:=.agg #[.int .i64 x.kind,.int .i64 x.src,.int .i64 x.to,.int .i64 x.term,.int .i64 x.index,.int .i64 x.prev,.int .i64 x.aE,.bool x.yes,.slice p x.aF.length c]
structure bQ.Ok(x:bQ):Prop where
 kind:aY x.kind
 src:aY x.src
 to:aY x.to
 term:aY x.term
 index:aY x.index
 prev:aY x.prev
 aE:aY x.aE
theorem a3k{M w cs}{x:bQ}(h:Gv.rep M w cs x):∃ p c,cs=x.cells p c/\x.aF.length<=c/\c<=maxLen/\x.Ok/\Sl M w p x.aF:=by
 obtain ⟨_,_,rfl,⟨rfl,h1⟩,_,_,rfl,⟨rfl,h2⟩,_,_,rfl,⟨rfl,h3⟩,_,_,rfl,⟨rfl,h4⟩,_,_,rfl,⟨rfl,h5⟩,_,_,rfl,⟨rfl,h6⟩,_,_,rfl,⟨rfl,h7⟩,_,_,rfl,rfl,p,c,rfl,h8,h9,h10⟩:=h;exact ⟨p,c,rfl,h8,h9,⟨h1,h2,h3,h4,h5,h6,h7⟩,h10⟩
theorem RU{M w}{x:bQ}{p c}(h:x.Ok)(h6:x.aF.length<=c)(h7:c<=maxLen)(h8:Sl M w p x.aF):Gv.rep M w (x.cells p c) x :=
 ⟨[_],_,rfl,⟨rfl,h.kind⟩,[_],_,rfl,⟨rfl,h.src⟩,[_],_,rfl,⟨rfl,h.to⟩,[_],_,rfl,⟨rfl,h.term⟩,[_],_,rfl,⟨rfl,h.index⟩,[_],_,rfl,⟨rfl,h.prev⟩,[_],_,rfl,⟨rfl,h.aE⟩,[_],_,rfl,rfl,p,c,rfl,h6,h7,h8⟩
theorem aQx{M w}{x:bQ}{p c}(h:Gv.rep M w (x.cells p c) x):Sl M w p x.aF:=by
 obtain ⟨p',c',e,_,_,_,h1⟩:=a3k h;simp only [bQ.cells,List.cons.injEq,Value.slice.injEq] at e;rw [e.2.2.2.2.2.2.2.2.1.1];exact h1
theorem OC{M w b o}{l:List bT}(h:Sl M w (some ⟨b,o,none⟩) l){i}(hi:i<l.length):bM w b (o+i*2) [.int .i64 l[i].term,.string l[i].data]:=by
 obtain ⟨b',o',cs,e,_,h3,h4⟩:=h i hi;cases e;rw [<-(D7 h4).1];exact h3
theorem aIh{M w p}{l:List bT}(h:Sl M w p l):∀ x∈l,x.Ok:=λx hx=>by
 obtain ⟨i,hi,rfl⟩:=List.getElem_of_mem hx;obtain ⟨_,_,_,_,_,_,h4⟩:=h i hi;exact (D7 h4).2
theorem yS{W w S}{Φ:PW}[aB Φ]{q l c2}(c:Ctx W w S Φ)(mF:∀ M w,Φ M w->Sl M w q l)(hlen:l.length<100000000){K}(hk:∀ p cap w',Ctx W w' (.buf p l.length cap (aZ l) 216 2 :: S) Φ->K (.returned (.slice p l.length cap)) w'):aD F.cP #[.slice q l.length c2] w K:=by
 refine gC (rQ q l.length c2 (J:=K∘.returned) c ?_);refine Br.intro (λh=>λw G cx=>?_) (λh=>λk w G cx=>?_)
 .have hq:q=none:=by simpa using h
  have hl:l.length=0:=by
   rcases Nat.eq_zero_or_pos l.length with h0|h0
   .exact h0
   .obtain ⟨b,o,hb⟩:=(mF _ _ cx.uX).there h0;rw [hq] at hb;cases hb
  have hl':l=[]:=List.eq_nil_of_length_eq_zero hl;subst hl';exact hk none 0 w (cx.left.MN 216 2)
 .obtain ⟨p',cap',w',cs,hrun,cx'⟩:=Ctx.a43 (P:=prog) (ts:=99) (ty:=99) (kb:=#[false,false]) (bytes:=24) (c2:=c2) cx (by kernel_rfl) aCI mF hlen (by omega);obtain ⟨rfl,_⟩:=a0q cx'.uX.2;exact ⟨p',l.length,cap',w',hrun,.buf p' l.length cap' (aZ l) 216 2 :: S,Φ,aM,cx'.fst,λw G cx=>hk p' cap' w cx.left⟩
theorem aAz{W w:World}{Q:List Own}{Φ:PW}{M:List Nat}{p:Option Addr}{n c:Nat}{l:List bT}(h:j8 W Q Φ M w)(hm:Own.buf p n c (aZ l) 216 2∈Q)(hok:∀ x∈l,x.Ok):Sl M w p l :=
 wU.sl (α:=bT) (D:=[]) (h.parked hm) (uF hok)
theorem dY.Ok.aF{r:dY}(h:r.Ok):∀ x∈r.log,x.Ok:=λx hx=>by
 have h1:=h.log.lo x hx;have h2:=h.log.hi x hx;have h3:=h.log.data x hx;have h4:=h.jD;exact ⟨by unfold aY;omega,by unfold maxLen;omega⟩
theorem Sl.take{α}[Gv α]{M w p}{l:List α}(h:Sl M w p l)(k):Sl M w p (l.take k):=λj hj=>by
 have hj':j<l.length:=by simp at hj;omega
 rw [List.getElem_take];exact h j hj'
theorem AY{W w S}{Φ:PW}[aB Φ]{b r p c}(cx:Ctx W w (aS b r p c++S) Φ)(kind to){K}(hK:∀ w',Ctx W w' (aS b r p c++S) Φ->K (.returned ((r6 r kind to).v none 0)) w'):aD F.eF #[.pointer (some ⟨b,0,none⟩),.int .i64 kind,.int .i64 to] w K:=by
 refine gC (wP b 0 kind to (J:=K∘.returned) cx ?_);exact λ_ w G cx=>⟨r.id,cx.get 0 rfl rfl,λw G cx=>⟨r.term,cx.get 0 rfl rfl,λw G cx=>hK w cx.left⟩⟩
structure Fit(r:dY)(to:Nat):Prop where
 lo:1<=r.next to
 hi:r.next to<=r.log.length+1
 len:r.log.length<=4000
 to:to<3
theorem OD{r:dY}{p c to}(h:to<3):(r.cells p c)[9+to]? = some (.int .i64 (r.next to)):=by
 match to,h with
 | 0,_=>rfl
 | 1,_=>rfl
 | 2,_=>rfl
theorem KK{r:dY}{p c to}(h:to<3):(r.cells p c)[12+to]? = some (.int .i64 (r.gJ to)):=by
 match to,h with
 | 0,_=>rfl
 | 1,_=>rfl
 | 2,_=>rfl
set_option maxHeartbeats 1000000 in
theorem IZ{W w S}{Φ:PW}[aB Φ]{b r p c}(cx:Ctx W w (aS b r p c++S) Φ)(hok:∀ x∈r.log,x.Ok){to:Int}(n:Nat)(hto:to=n)(hf:Fit r n){K}(hK:∀ q cap w',(entriesOf r n).aF.length<=cap->cap<=maxLen->Ctx W w' (aS b r p c++S) (λM w=>Φ M w/\Sl M w q (entriesOf r n).aF)->K (.returned ((entriesOf r n).v q cap)) w'):
  aD F.fK #[.pointer (some ⟨b,0,none⟩),.int .i64 to] w K:=by
 subst hto;have h1:=hf.lo;have h2:=hf.hi;have h3:=hf.len;have h4:=hf.to;refine gC (wR b 0 n (J:=K∘.returned) cx ?_);refine λ_ w G cx=>AY (gl cx) 2 n λw cx=>⟨_,_,_,_,_,_,_,_,none,_,0,rfl,aS b r p c++S,Φ,aM,gr cx,λ_=>⟨by omega,λw G cx=>⟨r.next n,?_,by unfold aY;omega,?_⟩⟩⟩
 .rw [Nat.zero_add,Int.toNat_natCast];exact cx.get 0 rfl (OD h4)
 have hnx:((r.next n:Nat):Int) - 1=((r.next n - 1:Nat):Int):=by omega
 rw [hnx];have hmin:min ((r.log.length:Nat):Int) (((r.next n - 1:Nat):Int)+8)=((min r.log.length (r.next n - 1+8):Nat):Int):=by omega
 refine ⟨aS b r p c++S,Φ,aM,λw G cx=>cx,(r.aE:Int),λw G cx=>⟨_,cx.get 0 rfl rfl,rfl⟩,λw G cx=>a0s (gl cx) rfl (by omega) h3 λw cx=>⟨_,rfl,aS b r p c++S,Φ,aM,gr cx,λw G cx=>cx,λw G cx=>cx,λw G cx=>cx,
  aS b r p c,Φ,aM,λw G cx=>cx.sub (by rw [aX];exact List.Sublist.append_left (List.sublist_append_right _ _) _),by unfold aY;omega,p,r.log.length,c,λw G cx=>⟨p,r.log.length,c,cx.get 0 rfl rfl,rfl⟩,p,r.log.length,c,λw G cx=>⟨p,r.log.length,c,cx.get 0 rfl rfl,rfl⟩,?_,λw G cx=>?_⟩⟩
 .have hc:=(cx.tT 1 rfl).2.1;omega
 rw [hmin,Int.toNat_natCast,Int.toNat_natCast];have hlen:min r.log.length (r.next n - 1+8) - (r.next n - 1)=((r.log.drop (r.next n - 1)).take 8).length:=by
  rw [List.length_take,List.length_drop];omega
 rw [hlen];have hc:=(cx.tT 1 rfl).2.1;have jZ:Ctx W w (S++G) (j8 W (aS b r p c) Φ):=Ctx.aside (cx.re (aX _ _ _));refine yS jZ (λM w h=>Sl.take (a7t (aAz h (n:=r.log.length) (c:=c) (by simp) hok) (r.next n - 1) hc) 8) (by rw [<-hlen];omega) λq cap w cx=>?_;obtain ⟨_,a3l,hcap2⟩:=cx.tT 0 rfl;have CD:Ctx W w (.buf q ((r.log.drop (r.next n - 1)).take 8).length cap (aZ ((r.log.drop (r.next n - 1)).take 8)) 216 2 :: (aS b r p c++(S++G))) Φ:=cx.AX.perm List.perm_middle
 obtain ⟨Y0,hs,_⟩:=Ctx.freeze (α:=bT) CD (uF λx hx=>hok x (List.mem_of_mem_drop (List.mem_of_mem_take hx)));have hst:aB (λM w=>Φ M w/\Sl M w q ((r.log.drop (r.next n - 1)).take 8)):=aM;refine ⟨q,_,cap,rfl,aS b r p c++S,λM w=>Φ M w/\Sl M w q ((r.log.drop (r.next n - 1)).take 8),hst,gr (Y0.add hs),λw G cx=>?_,λw G cx=>hK q cap w a3l hcap2 cx.left⟩;exact cx.fst.sub (by rw [aX];exact List.Sublist.append_left (List.sublist_append_right _ _) _)
theorem a0t{W w S}{Φ:PW}[aB Φ](cx:Ctx W w S Φ)(m:bQ)(p c)(hm:m.Ok)(h1:m.aF.length<=c)(h2:c<=maxLen)(mF:∀ M w,Φ M w->Sl M w p m.aF){K}(hK:∀ q w',Ctx W w' S (λM w=>Φ M w/\Sl M w q [m])->K (.returned (.agg #[.bool false,.int .i64 0,.int .i64 0,.int .i64 0,.slice none 0 0,.slice q 1 1])) w'):
  aD F.fD #[m.v p c] w K:=by
 refine gC (LF m.kind m.src m.to m.term m.index m.prev m.aE m.yes p m.aF.length c (J:=K∘.returned) cx ?_);refine λ_ _ k w G cx=>?_;obtain ⟨jZ,hs⟩:=cx.D5 (dP.one (RU (x:=m) hm h1 h2 (mF _ _ cx.uX)));exact hK (some ⟨k,0,none⟩) w (Ctx.left (F:=G) (Φ:=λM w=>Φ M w/\Sl M w (some ⟨k,0,none⟩) [m]) (jZ.add hs))
abbrev XK(o:mK)(p1:Option Addr)(c1:Nat)(p2:Option Addr)(c2:Nat):Value:=.agg #[.bool o.save,.int .i64 o.term,.int .i64 o.aO,.int .i64 o.src,.slice p1 o.aF.length c1,.slice p2 o.send.length c2]
def a5b(Φ:PW)(q1:Option Addr)(aF:List bT)(q2:Option Addr)(send:List bQ):PW:=λM w=>Φ M w/\Sl M w q1 aF/\Sl M w q2 send
instance aOe(Φ:PW)[aB Φ](q1:Option Addr)(aF:List bT)(q2:Option Addr)(send:List bQ):aB (a5b Φ q1 aF q2 send) :=
 have h2:aB (λM w=>Sl M w q1 aF/\Sl M w q2 send):=cE (λM w=>Sl M w q1 aF) (λM w=>Sl M w q2 send)
 cE Φ (λM w=>Sl M w q1 aF/\Sl M w q2 send)
def J0(W:World)(S:List Own)(Φ:PW)(b:Nat)(r':dY)(o:mK)(K:Value->World->Prop):Prop :=
 ∀ p' c' q1 c1 q2 c2 w',o.aF.length<=c1->c1<=maxLen->o.send.length<=c2->c2<=maxLen->Ctx W w' (aS b r' p' c'++S) (a5b Φ q1 o.aF q2 o.send)->K (XK o q1 c1 q2 c2) w'
theorem J0.zero{W w S Φ b r' K p c}(h:J0 W S Φ b r' kR K)(cx:Ctx W w (aS b r' p c++S) Φ):K (XK kR none 0 none 0) w :=
 h p c none 0 none 0 w (Nat.le_refl _) (by simp [maxLen]) (Nat.le_refl _) (by simp [maxLen]) (cx.weak λM w h=>⟨h,Sl.nil,Sl.nil⟩)
theorem J0.sent{W w S Φ b r' K p c l q cap}(h:J0 W S Φ b r' (nE l) K)(h1:l.length<=cap)(h2:cap<=maxLen)(cx:Ctx W w (aS b r' p c++S) (λM w=>Φ M w/\Sl M w q l)):K (XK (nE l) none 0 q cap) w :=
 h p c none 0 q cap w (Nat.le_refl _) (by simp [maxLen]) h1 h2 (cx.weak λM w h=>⟨h.1,Sl.nil,h.2⟩)
theorem a7z{r:dY}{p c i}(x)(h:i<3):(r.cells p c).set (6+i) (.bool x)={ r with cK:=put r.cK i x }.cells p c:=by
 match i,h with
 | 0,_=>rfl
 | 1,_=>rfl
 | 2,_=>rfl
theorem a0u{r:dY}{p c i}(x:Nat)(h:i<3):(r.cells p c).set (9+i) (.int .i64 x)={ r with next:=put r.next i x }.cells p c:=by
 match i,h with
 | 0,_=>rfl
 | 1,_=>rfl
 | 2,_=>rfl
theorem aCJ{r:dY}{p c i}(x:Nat)(h:i<3):(r.cells p c).set (12+i) (.int .i64 x)={ r with gJ:=put r.gJ i x }.cells p c:=by
 match i,h with
 | 0,_=>rfl
 | 1,_=>rfl
 | 2,_=>rfl
theorem mL{W w w' S}{Φ:PW}[aB Φ]{b r p c}(cx:Ctx W w (aS b r p c++S) Φ){i v}(e:w'=w.setCell ⟨b,i,none⟩ v)(r')(hc:(r.cells p c).set i v=r'.cells p c)(hl:r'.log=r.log):
  Ctx W w' (aS b r' p c++S) Φ:=by
 show Ctx W w' (.blk b (r'.cells p c) 278 :: .buf p r'.log.length c (aZ r'.log) 216 2 :: S) Φ;rw [<-hc,hl];exact cx.put 0 e rfl
theorem a0v{W w w' S}{Φ:PW}[aB Φ]{b r p c}(cx:Ctx W w (aS b r p c++S) Φ){i vs}(e:w'=w.setCells b i vs)(r')(hc:nN (r.cells p c) i vs=r'.cells p c)(hl:r'.log=r.log):
  Ctx W w' (aS b r' p c++S) Φ:=by
 show Ctx W w' (.blk b (r'.cells p c) 278 :: .buf p r'.log.length c (aZ r'.log) 216 2 :: S) Φ;rw [<-hc,hl];exact cx.FL 0 e rfl
theorem qP(id):(aT id).length=2:=by unfold aT;split;rfl;split<;>rfl
theorem D8{id}:∀ x∈aT id,x<3/\(id<=2->x≠id):=by
 intro x hx;unfold aT at hx;split at hx
 .simp at hx;omega
 .split at hx<;>simp at hx<;>omega
theorem dY.Ok.bE{r:dY}(h:r.Ok)(k):0<=bE r.log k/\Go.Proofs.YtnlkemjhgdbfkaaGreatDoor.bE r.log k<=r.term:=by
 have h0:=h.mT;cases k with
 | zero=>exact ⟨Int.le_refl _,h0⟩
 | succ k =>
  by_cases hk:k<r.log.length
  .rw [vV hk];have h1:=h.log.lo _ (List.getElem_mem hk);have h2:=h.log.hi _ (List.getElem_mem hk);omega
  .simp only [Go.Proofs.YtnlkemjhgdbfkaaGreatDoor.bE,List.getElem?_eq_none (Nat.not_lt.1 hk)];omega
theorem dY.Ok.fit{r}(h:r.Ok)(hr:r.role=2){i}(hi:i<3):Fit r i:=⟨(h.next hr i).1,(h.next hr i).2.1,h.len,hi⟩
theorem EO{r}(h:r.Ok){n}(hf:Fit r n):(entriesOf r n).Ok:=by
 have h1:=h.bE (r.next n - 1);have h2:=h.id;have h3:=h.mT;have h4:=h.jD;have h5:=h.aE;have h6:=h.len;have h7:=hf.hi;have h8:=hf.to;have e:∀ {x:Int},-1<=x->x<=1099511627776->aY x:=λh h'=>by unfold aY;omega
 unfold entriesOf;exact ⟨e (by simp) (by simp),e (by simp only;omega) (by simp only;omega),e (by simp only;omega) (by simp only;omega),e (by simp only;omega) (by simp only;omega),e (by simp only;omega) (by simp only;omega),e (by simp only;omega) (by simp only;omega),e (by simp only;omega) (by simp only;omega)⟩
set_option maxHeartbeats 1000000 in
theorem Y1{W w S}{Φ:PW}[aB Φ]{b r p c}(cx:Ctx W w (aS b r p c++S) Φ)(hr:r.Ok)(hf:∀ i,i<3->Fit r i){K}(hK:∀ q cap w',(cU r).length<=cap->cap<=maxLen->Ctx W w' (aS b r p c++S) (λM w=>Φ M w/\Sl M w q (cU r))->K (.returned (.slice q (cU r).length cap)) w'):
  aD F.gA #[.pointer (some ⟨b,0,none⟩)] w K:=by
 have hol:=qP r.id;have hal:(cU r).length=2:=by unfold cU;rw [List.length_map,hol]
 refine gC (BJ b 0 (J:=K∘.returned) cx ?_);refine λw G cx=>OB hr.id (gl cx) λk rest w cx=>⟨some ⟨k,0,none⟩,2,3,rfl,aS b r p c++(.blk k ((aT r.id).map (λx:Nat=>lJ (x:Int))++rest) 3 :: S),Φ,aM,gr (Q:=aS b r p c) (T:=.blk k ((aT r.id).map (λx:Nat=>lJ (x:Int))++rest) 3 :: S) (mid cx),?_⟩;refine dN (λq n cap iI R' aU m=>∃ (i:Nat) (gs:List Value),iI=i/\n=i/\i<=2/\R'=aS b r p c++(.buf q i cap gs 271 9 :: .blk k ((aT r.id).map (λx:Nat=>lJ (x:Int))++rest) 3 :: S)/\aU=(λM w=>Φ M w/\dP M w gs ((cU r).take i))/\m=2 - i)
  ⟨⟨_,λM w=>Φ M w/\dP M w [] ((cU r).take 0),_,aM,λw G cx=>gr (Q:=aS b r p c) (T:=.buf none 0 0 [] 271 9 :: .blk k ((aT r.id).map (λx:Nat=>lJ (x:Int))++rest) 3 :: S) (mid ((gl (Q:=aS b r p c) (cx.weak (Ψ:=λM w=>Φ M w/\dP M w [] ((cU r).take 0)) λM w h=>⟨h,by rw [List.take_zero];exact dP.nil⟩)).MN 271 9)),0,[],rfl,rfl,Nat.zero_le _,rfl,rfl,rfl⟩,?_⟩
 rintro q i cap iI R1 cF m _ ⟨_,gs,rfl,rfl,hi,rfl,rfl,rfl⟩;refine Br.intro (λhlt=>?_) (λhge=>λw G cx=>?_)
 .have hlt:i<2:=by have:=eR hlt;omega
  have hio:i<(aT r.id).length:=by omega
  obtain ⟨n,hn⟩:∃ n,(aT r.id)[i]=n:=⟨_,rfl⟩;have hn3:n<3:=hn ▸ (D8 _ (List.getElem_mem hio)).1;have hfn:=hf n hn3;have hst:aB (λM w=>Φ M w/\dP M w gs ((cU r).take i)):=aM;refine ⟨by omega,aW k 0 rfl λw G cx=>⟨n,?_,λw G cx=>?_⟩⟩
  .rw [Int.toNat_natCast,Nat.zero_add];refine cx.get 3 rfl ?_;rw [List.getElem?_append_left (by rw [List.length_map];omega),List.getElem?_map,List.getElem?_eq_getElem hio,hn];rfl
  refine IZ (Φ:=λM w=>Φ M w/\dP M w gs ((cU r).take i)) (gl cx) hr.aF n rfl hfn λq2 cap2 w h1 h2 cx=>?_;have TP:aB (λM w=>(Φ M w/\dP M w gs ((cU r).take i))/\Sl M w q2 (entriesOf r n).aF):=aM;refine ⟨_,_,_,_,_,_,_,_,q2,_,cap2,rfl,aS b r p c++(.buf q i cap gs 271 9 :: .blk k ((aT r.id).map (λx:Nat=>lJ (x:Int))++rest) 3 :: S),λM w=>(Φ M w/\dP M w gs ((cU r).take i))/\Sl M w q2 (entriesOf r n).aF,TP,gr cx,λk2 w G cx=>?_⟩
  have jZ:Ctx W w (.blk k2 ((entriesOf r n).cells q2 cap2) 271 :: .buf q i cap gs 271 9 :: (aS b r p c++(.blk k ((aT r.id).map (λx:Nat=>lJ (x:Int))++rest) 3 :: (S++G)))) (λM w=>(Φ M w/\dP M w gs ((cU r).take i))/\Sl M w q2 (entriesOf r n).aF):=by
   exact cx.perm (List.Perm.cons _ ((List.Perm.of_eq (aX _ _ _)).trans List.perm_middle))
  obtain ⟨p',cap',w',hrun,_,cx'⟩:=Ctx.a2i (P:=prog) (ts:=144) (ty:=144) (kb:=#[false,false]) (size:=9) (bytes:=88) jZ (by kernel_rfl) (by omega) rfl rfl (by omega) (by omega);have ZB:aB (λM w=>Φ M w/\dP M w (gs++(entriesOf r n).cells q2 cap2) ((cU r).take (i+1))):=aM;refine ⟨p',i+1,cap',w',hrun,aS b r p c++(.buf p' (i+1) cap' (gs++(entriesOf r n).cells q2 cap2) 271 9 :: .blk k ((aT r.id).map (λx:Nat=>lJ (x:Int))++rest) 3 :: S),λM w=>Φ M w/\dP M w (gs++(entriesOf r n).cells q2 cap2) ((cU r).take (i+1)),ZB,gr (mid ((cx'.weak λM w h=>⟨h.1.1,?_⟩))),by unfold aY;omega,_,_,2 - (i+1),ZB,λw G cx=>cx,⟨i+1,_,by omega,rfl,by omega,rfl,rfl,rfl⟩,by omega⟩
  have:(cU r).take (i+1)=(cU r).take i++[entriesOf r n]:=by
   rw [List.take_succ_eq_append_getElem (by omega)];unfold cU;rw [List.getElem_map,hn]
  rw [this];exact h.1.2.snoc (RU (EO hr hfn) h1 h2 h.2)
 .have hge:i=2:=by have:=dD hge;omega
  subst hge;have htk:(cU r).take 2=cU r:=by rw [<-hal,List.take_length]
  have jZ:=front (gl cx);have h:=jZ.uX.2;rw [htk] at h;have CD:Ctx W w (.buf q 2 cap gs 271 9 :: (aS b r p c++(.blk k ((aT r.id).map (λx:Nat=>lJ (x:Int))++rest) 3 :: S++G))) Φ:=jZ.fst;obtain ⟨Y0,hs,_,hcap,hmax⟩:=Ctx.freeze (α:=bQ) CD h;have cx4:=(front (Y0.add (Ψ:=λM w=>Sl M w q (cU r)) hs)).drop1;have:=hK q cap w (by rw [hal];exact hcap) hmax (Ctx.left (F:=G) (Φ:=λM w=>Φ M w/\Sl M w q (cU r)) (gr cx4))
  rw [hal] at this;exact this
theorem uG{x}(h : -1<=x)(h':x<=1099511627777):aY x:=by unfold aY;omega
theorem EP{r:dY}(h:r.Ok){kind to index prev yes}(h1:0<=kind/\kind<=3)(h2 : -1<=to/\to<=2)(h3 : -1<=index/\index<=8000)(h4:0<=prev/\prev<=1099511627776):(⟨kind,r.id,to,r.term,index,prev,0,yes,[]⟩:bQ).Ok:=by
 have h5:=h.id;have h6:=h.mT;have h7:=h.jD;exact ⟨uG (by simp only;omega) (by simp only;omega),uG (by simp only;omega) (by simp only;omega),uG (by simp only;omega) (by simp only;omega),uG (by simp only;omega) (by simp only;omega),uG (by simp only;omega) (by simp only;omega),uG (by simp only;omega) (by simp only;omega),uG (by simp only;omega) (by simp only;omega)⟩
theorem aCK{W w S G}{Φ:PW}[aB Φ]{b k r p c m}(cx:Ctx W w (aS b r p c++.blk k (m.cells none 0) 271 :: S++G) Φ)(hm:m.Ok)(hr:m.aF=[]){K}(hK:J0 W S Φ b r (nE [m]) K){K2}(hk2:∀ q w',Ctx W w' (aS b r p c++.blk k (m.cells none 0) 271 :: S++G) (λM w=>Φ M w/\Sl M w q [m])->(∀ w G',Ctx W w (aS b r p c++.blk k (m.cells none 0) 271 :: S++G') (λM w=>Φ M w/\Sl M w q [m])->K (XK (nE [m]) none 0 q 1) w)->K2 (.returned (XK (nE [m]) none 0 q 1)) w'):
  aD F.fD #[m.v none 0] w K2:=by
 refine a0t cx m none 0 hm (by rw [hr];exact Nat.le_refl _) (by simp [maxLen]) (λM w h=>by rw [hr];exact Sl.nil) λq w cx=>hk2 q w cx λw G' cx=>?_;have hst:aB (λM w=>Φ M w/\Sl M w q [m]):=aM;exact hK.sent (by simp) (by simp [maxLen]) (Ctx.left (F:=G') (lift cx).drop1)
set_option maxHeartbeats 1000000 in
theorem a7A{W w S}{Φ:PW}[aB Φ]{b r p c}(cx:Ctx W w (aS b r p c++S) Φ)(hr:r.Ok)(m q qc)(h1:0<=m.src)(h2:m.src<=2){K}(hK:J0 W S Φ b (dI r m).1 (dI r m).2 λv w=>K (.returned v) w):aD F.jW #[.pointer (some ⟨b,0,none⟩),m.v q qc] w K:=by
 have hlen:=hr.len;refine gC (zO b 0 m.kind m.src m.to m.term m.index m.prev m.aE m.yes q m.aF.length qc (J:=K∘.returned) cx ?_);refine λ_ _ w G cx=>AY (gl cx) 1 m.src λw cx=>⟨_,_,_,_,_,_,_,_,none,_,0,rfl,aS b r p c++S,Φ,aM,gr cx,λk w G cx=>⟨cx.can 0 rfl (by simp),λw' hw'=>?_⟩⟩;have jZ:Ctx W w' (aS b r p c++.blk k ((r6 r 1 m.src).cells none 0) 271 :: S++G) Φ:=sink (cx.FL 0 hw' rfl);refine ⟨_,Φ,aM,jZ,λw G cx=>⟨p,r.log.length,c,cx.get 0 rfl rfl,λw G cx=>a0s (gl cx) rfl (Nat.le_refl _) hlen λw cx=>⟨_,rfl,_,Φ,aM,gr cx,λw G cx=>⟨p,r.log.length,c,λ_=>cx.get 0 rfl rfl,λw G cx=>⟨r.term,cx.get 0 rfl rfl,r.aO,λ_=>cx.get 0 rfl rfl,r.aO,λ_=>cx.get 0 rfl rfl,Br.intro (λh=>?_) (λh=>?_)⟩⟩⟩⟩⟩
 .have hv:dI r m=({ r with aO:=m.src },nE [⟨1,r.id,m.src,r.term,0,0,0,true,[]⟩]):=by unfold dI UF;rw [if_pos h]
  rw [hv] at hK;refine ⟨[],λ_ _=>True,aM,λw G cx=>(cx.weak λ_ _ _=>trivial).right,λw G cx=>⟨cx.can 2 rfl (by simp),λw' hw'=>?_⟩⟩;have jZ:Ctx W w' (aS b r p c++.blk k ((⟨1,r.id,m.src,r.term,0,0,0,true,[]⟩:bQ).cells none 0) 271 :: S++G) Φ:=cx.put 2 hw' rfl;refine ⟨_,Φ,aM,jZ,λw G cx=>(cx.weak λ_ _ _=>trivial).right,λw G cx=>⟨cx.can 0 rfl (by simp),λw' hw'=>?_⟩⟩;have jZ:Ctx W w' (aS b { r with aO:=m.src } p c++.blk k ((⟨1,r.id,m.src,r.term,0,0,0,true,[]⟩:bQ).cells none 0) 271 :: S++G) Φ:=gr (mL (gl cx) hw' { r with aO:=m.src } rfl rfl)
  refine ⟨_,Φ,aM,jZ,λw G cx=>⟨_,_,_,_,_,_,_,_,none,_,0,cx.DV 2 rfl,λw G cx=>?_⟩⟩;refine aCK cx (EP hr (by omega) (by omega) (by omega) (by omega)) rfl hK λq w cx A8=>⟨_,_,_,_,none,_,0,q,_,1,rfl,_,_,aM,cx,λw G cx=>A8 w G cx⟩
 .have hv:dI r m=(r,nE [r6 r 1 m.src]):=by unfold dI UF;rw [if_neg (by rw [h];simp)]
  rw [hv] at hK;refine λw G cx=>⟨_,_,_,_,_,_,_,_,none,_,0,cx.DV 2 rfl,λw G cx=>?_⟩;refine aCK cx (EP hr (by omega) (by omega) (by omega) (by omega)) rfl hK λq w cx A8=>⟨_,_,_,_,none,_,0,q,_,1,rfl,_,_,aM,cx,λw G cx=>A8 w G cx⟩
def pV(r:dY):dY:={ r with term:=r.term+1,aO:=r.id,role:=1,cK:=λi=>decide (i=r.id) }
theorem KL{r}(h:r.role=2):eA r=(r,nE (cU r)):=by unfold eA;rw [if_pos h]
theorem RV{r}(h:¬ r.role=2)(h2:r.term=1099511627776):eA r=(r,kR):=by unfold eA;rw [if_neg h,if_pos h2]
theorem RW{r}(h:¬ r.role=2)(h2:¬ r.term=1099511627776):eA r=(pV r,⟨true,r.term+1,r.id,0,[],(aT r.id).map λi=>vU (pV r) i⟩):=by unfold eA;rw [if_neg h,if_neg h2];rfl
theorem aAA{r}(h:r.Ok)(hr:¬ r.role=2)(h2:¬ r.term=1099511627776):(pV r).Ok:=by
 have h3:=h.mT;have h4:=h.jD;have h5:=h.id;refine ⟨h.id,by show 0<=r.term+1;omega,by show r.term+1<=_;omega,by show -1<=(r.id:Int);omega,by show (r.id:Int)<=2;omega,⟨h.log.lo,λx hx=>?_,h.log.data,h.log.W8⟩,h.len,.inr (.inl rfl),h.aE,λh=>?_,h.bound⟩
 .have:=h.log.hi x hx;show x.term<=r.term+1;omega
 .cases (show (1:Int)=2 from h)
theorem a7B{r}(h:r.Ok)(to)(ht:to<3):(vU r to).Ok:=by
 have h1:=h.bE r.log.length;have h2:=h.len;have h4:=h.jD;exact EP h (by omega) (by omega) (by omega) (by omega)
set_option maxHeartbeats 2000000 in
theorem aIi{W w S}{Φ:PW}[aB Φ]{b r p c}(cx:Ctx W w (aS b r p c++S) Φ)(hr:r.Ok){K}(hK:J0 W S Φ b (eA r).1 (eA r).2 λv w=>K (.returned v) w):aD F.nX #[.pointer (some ⟨b,0,none⟩)] w K:=by
 have hlen:=hr.len;have hid:=hr.id;have ht0:=hr.mT;have htM:=hr.jD;refine gC (zL b 0 (J:=K∘.returned) cx ?_);refine λ_ w G cx=>⟨r.role,cx.get 0 rfl rfl,Br.intro (λh=>λw G cx=>?_) (λh=>λw G cx=>⟨r.term,cx.get 0 rfl rfl,Br.intro (λh2=>λw G cx=>?_) (λh2=>?_)⟩)⟩
 .have h:=eR h;rw [KL h] at hK;refine Y1 (gl cx) hr (λi hi=>hr.fit h hi) λq cap w h1 h2 cx=>⟨q,_,cap,rfl,aS b r p c++S,λM w=>Φ M w/\Sl M w q (cU r),aM,gr cx,λw G cx=>hK.sent h1 h2 (Ctx.left (F:=G) (Φ:=λM w=>Φ M w/\Sl M w q (cU r)) cx)⟩
 .rw [RV (dD h) (eR h2)] at hK;exact hK.zero cx.left
 have h:=dD h;have h2:=dD h2;rw [RW h h2] at hK;have hao:=aAA hr h h2;refine λw G cx=>⟨r.id,cx.get 0 rfl rfl,λw G cx=>⟨r.term,cx.get 0 rfl rfl,by unfold aY;omega,λw G cx=>⟨cx.can 0 rfl (by simp),λw' hw'=>?_⟩⟩⟩;have jZ:=gr (a0v (gl cx) hw' { r with term:=r.term+1,aO:=r.id } rfl rfl);refine ⟨_,Φ,aM,jZ,λw G cx=>⟨cx.can 0 rfl (by simp),λw' hw'=>?_⟩⟩;have jZ:=gr (mL (gl cx) hw' { r with term:=r.term+1,aO:=r.id,role:=1 } rfl rfl)
 refine ⟨_,Φ,aM,jZ,λw G cx=>⟨cx.can 0 rfl (by simp),λw' hw'=>?_⟩⟩;have jZ:=gr (a0v (gl cx) hw' { r with term:=r.term+1,aO:=r.id,role:=1,cK:=λ_=>false } rfl rfl);refine ⟨_,Φ,aM,jZ,[],λ_ _=>True,aM,λw G cx=>(cx.weak λ_ _ _=>trivial).right,λw G cx=>⟨r.id,cx.get 0 rfl rfl,by omega,λw G cx=>⟨cx.can 0 rfl (by rw [Int.toNat_natCast];simp;omega),λw' hw'=>?_⟩⟩⟩;have hvo:({ r with term:=r.term+1,aO:=r.id,role:=1,cK:=put (λ_=>false) r.id true }:dY)=pV r:=by
  unfold pV
  congr 1
 rw [Int.toNat_natCast,Nat.zero_add] at hw';have jZ:=gr (mL (gl cx) hw' { r with term:=r.term+1,aO:=r.id,role:=1,cK:=put (λ_=>false) r.id true } (a7z (r:={ r with term:=r.term+1,aO:=r.id,role:=1,cK:=λ_=>false }) true (by omega)) rfl);rw [hvo] at jZ;have hal:(aT r.id).length=2:=qP _;obtain ⟨sl,mF⟩:∃ l,(aT r.id).map (λi=>vU (pV r) i)=l:=⟨_,rfl⟩;have aWn:sl.length=2:=by rw [<-mF,List.length_map,hal]
 rw [mF] at hK;refine ⟨_,Φ,aM,jZ,λw G cx=>(cx.weak λ_ _ _=>trivial).right,λw G cx=>⟨_,_,cx.row 0 rfl (AW (vs:=[.int .i64 (r.term+1),.int .i64 r.id]) rfl),λ_ w G cx=>OB (r:=pV r) hid (gl cx) λk rest w cx=>⟨some ⟨k,0,none⟩,2,3,rfl,aS b (pV r) p c++.blk k ((aT r.id).map (λx:Nat=>lJ (x:Int))++rest) 3 :: S,Φ,aM,gr (Q:=aS b (pV r) p c) (T:=.blk k ((aT r.id).map (λx:Nat=>lJ (x:Int))++rest) 3 :: S) (mid cx),?_⟩⟩⟩
 refine dN (λiI sv tm vt fr rp rn rc q n cap R' aU m=>∃ (i:Nat) (gs:List Value),iI=i/\n=i/\i<=2/\sv=true/\tm=r.term+1/\vt=r.id/\fr=0/\rn=0/\rp=none/\rc=0/\R'=aS b (pV r) p c++(.buf q i cap gs 271 9 :: .blk k ((aT r.id).map (λx:Nat=>lJ (x:Int))++rest) 3 :: S)/\aU=(λM w=>Φ M w/\dP M w gs (sl.take i))/\m=2 - i)
  ⟨⟨_,λM w=>Φ M w/\dP M w [] (sl.take 0),_,aM,λw G cx=>gr (Q:=aS b (pV r) p c) (T:=.buf none 0 0 [] 271 9 :: .blk k ((aT r.id).map (λx:Nat=>lJ (x:Int))++rest) 3 :: S) (mid ((gl (Q:=aS b (pV r) p c) (cx.weak (Ψ:=λM w=>Φ M w/\dP M w [] (sl.take 0)) λM w h=>⟨h,by rw [List.take_zero];exact dP.nil⟩)).MN 271 9)),0,[],rfl,rfl,Nat.zero_le _,rfl,rfl,rfl,rfl,rfl,rfl,rfl,rfl,rfl,rfl⟩,?_⟩
 rintro iI _ _ _ _ _ _ _ q i cap R1 cF m _ ⟨_,gs,rfl,rfl,hi,rfl,rfl,rfl,rfl,rfl,rfl,rfl,rfl,rfl,rfl⟩;refine Br.intro (λhlt=>?_) (λhge=>λw G cx=>?_)
 .have hlt:i<2:=by have:=eR hlt;omega
  have hio:i<(aT r.id).length:=by omega
  obtain ⟨n,hn⟩:∃ n,(aT r.id)[i]=n:=⟨_,rfl⟩;have hn3:n<3:=hn ▸ (D8 _ (List.getElem_mem hio)).1;have hst:aB (λM w=>Φ M w/\dP M w gs (sl.take i)):=aM;refine ⟨by omega,aW k 0 rfl λw G cx=>⟨n,?_,λw G cx=>?_⟩⟩
  .rw [Int.toNat_natCast,Nat.zero_add];refine cx.get 3 rfl ?_;rw [List.getElem?_append_left (by rw [List.length_map];omega),List.getElem?_map,List.getElem?_eq_getElem hio,hn];rfl
  refine AY (Φ:=λM w=>Φ M w/\dP M w gs (sl.take i)) (gl cx) 0 n λw cx=>⟨_,_,_,_,_,_,_,_,none,_,0,rfl,_,_,hst,gr cx,λk2 w G cx=>⟨cx.can 0 rfl (by simp),λw' hw'=>?_⟩⟩;have jZ:Ctx W w' (aS b (pV r) p c++.blk k2 ((r6 (pV r) 0 n).cells none 0) 271 :: (.buf q i cap gs 271 9 :: .blk k ((aT r.id).map (λx:Nat=>lJ (x:Int))++rest) 3 :: S)++G) (λM w=>Φ M w/\dP M w gs (sl.take i)):=sink (cx.FL 0 hw' rfl);refine ⟨_,_,hst,jZ,aS b (pV r) p c,λ_ _=>True,aM,λw G cx=>aId cx,p,r.log.length,c,λw G cx=>⟨p,r.log.length,c,cx.get 0 rfl rfl,rfl⟩,p,r.log.length,c,λw G cx=>⟨p,r.log.length,c,cx.get 0 rfl rfl,rfl⟩,λw G cx=>a0s (gl cx) rfl (Nat.le_refl _) hlen λw cx=>⟨_,rfl,aS b (pV r) p c++.blk k2 ((r6 (pV r) 0 n).cells none 0) 271 :: (.buf q i cap gs 271 9 :: .blk k ((aT r.id).map (λx:Nat=>lJ (x:Int))++rest) 3 :: S),λM w=>Φ M w/\dP M w gs (sl.take i),hst,gr cx,λw G cx=>aId cx,λw G cx=>⟨cx.can 2 rfl (by simp),λw' hw'=>?_⟩⟩⟩
  have jZ:Ctx W w' (aS b (pV r) p c++.blk k2 ((⟨0,r.id,n,r.term+1,r.log.length,0,0,false,[]⟩:bQ).cells none 0) 271 :: (.buf q i cap gs 271 9 :: .blk k ((aT r.id).map (λx:Nat=>lJ (x:Int))++rest) 3 :: S)++G) (λM w=>Φ M w/\dP M w gs (sl.take i)):=cx.put 2 hw' rfl;refine ⟨_,_,hst,jZ,λw G cx=>aId cx,λw G cx=>⟨cx.can 2 rfl (by simp),λw' hw'=>?_⟩⟩;have jZ:Ctx W w' (aS b (pV r) p c++.blk k2 ((vU (pV r) n).cells none 0) 271 :: (.buf q i cap gs 271 9 :: .blk k ((aT r.id).map (λx:Nat=>lJ (x:Int))++rest) 3 :: S)++G) (λM w=>Φ M w/\dP M w gs (sl.take i)):=cx.put 2 hw' rfl
  refine ⟨_,_,hst,jZ,λw G cx=>⟨_,_,_,_,_,_,_,_,none,_,0,cx.DV 2 rfl,λk3 w G cx=>?_⟩⟩;have jZ:Ctx W w (.blk k3 ((vU (pV r) n).cells none 0) 271 :: .buf q i cap gs 271 9 :: (aS b (pV r) p c++(.blk k2 ((vU (pV r) n).cells none 0) 271 :: (.blk k ((aT r.id).map (λx:Nat=>lJ (x:Int))++rest) 3 :: S))++G)) (λM w=>Φ M w/\dP M w gs (sl.take i)):=by
   refine cx.perm (List.Perm.cons _ ?_);exact (List.Perm.append_right G (List.Perm.append_left _ (List.Perm.swap _ _ _))).trans (List.Perm.append_right G List.perm_middle)
  obtain ⟨p',cap',w',hrun,_,cx'⟩:=Ctx.a2i (P:=prog) (ts:=144) (ty:=144) (kb:=#[false,false]) (size:=9) (bytes:=88) jZ (by kernel_rfl) (by omega) rfl rfl (by omega) (by omega);have ZB:aB (λM w=>Φ M w/\dP M w (gs++(vU (pV r) n).cells none 0) (sl.take (i+1))):=aM;have htk:sl.take (i+1)=sl.take i++[vU (pV r) n]:=by
   rw [List.take_succ_eq_append_getElem (by omega)];exact congrArg (λy=>sl.take i++[y]) (by simp only [<-mF,List.getElem_map,hn])
  have CD:=(front (gl (Q:=.buf p' (i+1) cap' (gs++(vU (pV r) n).cells none 0) 271 9 :: aS b (pV r) p c) (T:=.blk k2 ((vU (pV r) n).cells none 0) 271 :: (.blk k ((aT r.id).map (λx:Nat=>lJ (x:Int))++rest) 3 :: S)) cx')).drop1;refine ⟨p',i+1,cap',w',hrun,aS b (pV r) p c++(.buf p' (i+1) cap' (gs++(vU (pV r) n).cells none 0) 271 9 :: .blk k ((aT r.id).map (λx:Nat=>lJ (x:Int))++rest) 3 :: S),λM w=>Φ M w/\dP M w (gs++(vU (pV r) n).cells none 0) (sl.take (i+1)),ZB,gr (mid (CD.weak λM w h=>⟨h.1,?_⟩)),by unfold aY;omega,_,_,2 - (i+1),ZB,λw G cx=>cx,⟨i+1,_,by omega,rfl,by omega,rfl,rfl,rfl,rfl,rfl,rfl,rfl,rfl,rfl,rfl⟩,by omega⟩
  rw [htk];exact h.2.snoc (RU (a7B hao n hn3) (Nat.le_refl _) (by simp [maxLen]) Sl.nil)
 .have hge:i=2:=by have:=dD hge;omega
  subst hge;have htk:sl.take 2=sl:=by rw [<-aWn,List.take_length]
  have jZ:=front (gl cx);have h:=jZ.uX.2;rw [htk] at h;have CD:Ctx W w (.buf q 2 cap gs 271 9 :: (aS b (pV r) p c++(.blk k ((aT r.id).map (λx:Nat=>lJ (x:Int))++rest) 3 :: S++G))) Φ:=jZ.fst;obtain ⟨Y0,hs,_,hcap,hmax⟩:=Ctx.freeze (α:=bQ) CD h;have cx4:=(front (Y0.add (Ψ:=λM w=>Sl M w q sl) hs)).drop1;have:=hK p c none 0 q cap w (Nat.le_refl _) (by simp [maxLen]) (by show sl.length<=cap;omega) hmax ((Ctx.left (F:=G) (Φ:=λM w=>Φ M w/\Sl M w q sl) (gr cx4)).weak λM w h=>⟨h.1,Sl.nil,h.2⟩)
  unfold XK at this;simp only at this;rw [aWn] at this;exact this
theorem a7C(l:List bT)(i)(hi:i<l.length)(least most):qO (l.drop i) least most=if (decide (l[i].term<least)||decide (most<l[i].term)||decide (2000<(l[i].data.size:Int)))=true then false else qO (l.drop (i+1)) l[i].term most:=by
 rw [List.drop_eq_getElem_cons hi];rfl
theorem a7D{Φ:PW}[aB Φ](p cap l least most)(nS:∀ M w,Φ M w->Sl M w p l)(hlen:l.length<=9223372036854775807):
  cS Φ prog F.vA #[.slice p l.length cap,.int .i64 least,.int .i64 most] (.bool (qO l least most)):=by
 refine .there (λM w h=>(nS M w h).there) λhth=>?_;refine j7 (NM p l.length cap least most) λW R=>?_;refine dN (λle n R' aU k=>∃ i:Nat,n=i/\i<=l.length/\R'=R/\aU=Φ/\k=l.length - i/\qO l least most=qO (l.drop i) le most) ⟨⟨R,Φ,_,aM,λw F c=>c,0,rfl,Nat.zero_le _,rfl,rfl,rfl,rfl⟩,?_⟩;rintro le n R1 cF k _ ⟨i,rfl,hi,rfl,rfl,rfl,hs⟩;refine Br.intro (λhlt=>?_) (λhge=>λw F cx=>⟨?_,cx.left⟩)
 .have hlt:i<l.length:=by simpa using hlt
  obtain ⟨b,o,rfl⟩:=hth (by omega);rw [a7C l i hlt] at hs;refine ⟨by omega,aW b o rfl λw F cx=>⟨l[i].term,l[i].data,by rw [Int.toNat_natCast];exact OC (nS _ _ cx.uX) hlt,λ_ w F cx=>Br.intro (λh=>λw F cx=>⟨?_,cx.left⟩) (λh=>⟨by unfold aY;omega,R1,cF,l.length - (i+1),aM,λw F c=>c,⟨i+1,rfl,hlt,rfl,rfl,rfl,?_⟩,by omega⟩)⟩⟩
  .rw [hs,if_pos h]
  .rw [hs,if_neg (by rw [h];simp)]
 .have hge:i=l.length:=Nat.le_antisymm hi (by simpa using hge);rw [hs,hge,List.drop_length];rfl
theorem aEs{W w S}{Φ:PW}[aB Φ]{b r p c}(cx:Ctx W w (aS b r p c++S) Φ)(m q qc)(mF:∀ M w,Φ M w->Sl M w q m.aF)(hlen:m.aF.length<=9223372036854775807)(hix:aY m.index){K}(hK:∀ w',Ctx W w' (aS b r p c++S) Φ->K (.returned (.bool (iV r.id m))) w'):aD F.nC #[.pointer (some ⟨b,0,none⟩),m.v q qc] w K:=by
 refine gC (yH b 0 m.kind m.src m.to m.term m.index m.prev m.aE m.yes q m.aF.length qc (J:=K∘.returned) cx ?_);have hfalse:∀ {w:World} {G:List Own},iV r.id m=false->Ctx W w (aS b r p c++S++G) Φ->K (.returned (.bool false)) w:=fun {w G} h cx=>by
  have:=hK w cx.left;rw [h] at this;exact this
 refine λ_ w G cx=>⟨_,λw' hw=>(oL m.kind 0 3).atN hw,r.id,λ_=>cx.get 0 rfl rfl,r.id,λ_=>cx.get 0 rfl rfl,_,λ_ w' hw=>(oL m.src 0 2).atN hw,Br.intro (λh=>λw G cx=>?_) (λh1=>λw G cx=>?_)⟩
 .refine hfalse ?_ cx;rw [Bool.eq_false_iff];intro hr;unfold iV at hr;simp only [Bool.and_eq_true,Bool.or_eq_true,decide_eq_true_eq,Bool.not_eq_true',Bool.and_eq_false_iff,decide_eq_false_iff_not] at hr h;omega
 refine ⟨_,λw' hw=>(oL m.term 1 1099511627776).at hw,_,λ_ w' hw=>(oL m.index 0 4000).at hw,_,λ_ w' hw=>(oL m.prev 0 m.term).at hw,Br.intro (λh=>λw G cx=>?_) (λh2=>λw G cx=>?_)⟩
 .refine hfalse ?_ cx;rw [Bool.eq_false_iff];intro hr;unfold iV at hr;simp only [Bool.and_eq_true,Bool.or_eq_true,decide_eq_true_eq,Bool.not_eq_true',Bool.and_eq_false_iff,decide_eq_false_iff_not] at hr h;omega
 refine ((oL m.aE 0 4000).a3g).use (gl cx) λw cx=>⟨_,rfl,aS b r p c++S,Φ,aM,gr cx,Br.intro (λh3=>Br.intro (λh4=>?_) (λh=>λw G cx=>?_)) (λh=>λw G cx=>?_)⟩
 .simp only [Bool.and_eq_true,Bool.or_eq_true,decide_eq_true_eq,Bool.or_eq_false_iff,Bool.not_eq_false',Bool.and_eq_false_iff,decide_eq_false_iff_not] at h1 h2 h3 h4;refine ⟨by unfold aY;omega,Br.intro (λh5=>λw G cx=>?_) (λh=>λw G cx=>?_)⟩
  .have h5:=eR h5;refine (a7D q qc m.aF (max 1 m.prev) m.term mF hlen).use (gl cx) λw cx=>⟨_,rfl,aS b r p c++S,Φ,aM,gr cx,λw G cx=>?_⟩;have:=hK w cx.left;have hr:iV r.id m=qO m.aF (max 1 m.prev) m.term:=by
    unfold iV;have hz:(!(decide (m.index=0)&&decide (m.prev≠0)))=true:=by
     simp only [Bool.not_eq_true',Bool.and_eq_false_iff,decide_eq_false_iff_not];omega
    rw [hz,decide_eq_true (show 0<=m.kind by omega),decide_eq_true (show m.kind<=3 by omega),decide_eq_true (show m.to=r.id by omega),decide_eq_true (show m.src≠r.id by omega),decide_eq_true (show 0<=m.src by omega),decide_eq_true (show m.src<=2 by omega),
     decide_eq_true (show 1<=m.term by omega),decide_eq_true (show m.term<=1099511627776 by omega),decide_eq_true (show 0<=m.index by omega),decide_eq_true (show m.index<=4000 by omega),decide_eq_true (show 0<=m.prev by omega),decide_eq_true (show m.prev<=m.term by omega),
     decide_eq_true (show 0<=m.aE by omega),decide_eq_true (show m.aE<=4000 by omega),decide_eq_true h4,decide_eq_true h5]
    rfl
   rw [hr] at this;exact this
  .refine hfalse ?_ cx;rw [Bool.eq_false_iff];intro hr;unfold iV at hr;simp only [Bool.and_eq_true,decide_eq_true_eq,decide_eq_false_iff_not] at hr h;omega
 .refine hfalse ?_ cx;rw [Bool.eq_false_iff];intro hr;unfold iV at hr;simp only [Bool.and_eq_true,decide_eq_true_eq,decide_eq_false_iff_not] at hr h;omega
 .refine hfalse ?_ cx;rw [Bool.eq_false_iff];intro hr;unfold iV at hr;simp only [Bool.and_eq_true,decide_eq_true_eq,Bool.and_eq_false_iff,decide_eq_false_iff_not] at hr h;omega
def OE(id term aO:Int)(l:List bT):Bool:=decide (0<=id)&&decide (id<=2)&&decide (0<=term)&&decide (term<=1099511627776)&&decide (-1<=aO)&&decide (aO<=2)&&decide ((l.length:Int)<=4000)&&qO l 1 term
theorem aMb{W w S}{Φ:PW}[aB Φ](cx:Ctx W w S Φ)(id term aO l q qc)(mF:∀ M w,Φ M w->Sl M w q l)(hlen:l.length<=9223372036854775807){K}(h0:OE id term aO l=false->∀ w',Ctx W w' S Φ->K (.returned (.pointer none)) w')(h1:OE id term aO l=true->∀ b p c w',Ctx W w' (aS b (dU id.toNat term aO l) p c++S) Φ->K (.returned (.pointer (some ⟨b,0,none⟩))) w'):aD F.HF #[.int .i64 id,.agg #[.int .i64 term,.int .i64 aO],.slice q l.length qc] w K:=by
 refine gC (TR id term aO q l.length qc (J:=K∘.returned) cx ?_);have hf:∀ {w:World} {G:List Own},OE id term aO l=false->Ctx W w (S++G) Φ->K (.returned (.pointer none)) w:=λh cx=>h0 h _ cx.left;refine λ_ w G cx=>(oL id 0 2).a3g.use cx λw cx=>⟨_,rfl,S,Φ,aM,cx,Br.intro (λh=>λw G cx=>hf ?_ cx) (λhb1=>λw G cx=>(oL term 0 1099511627776).a3g.use cx λw cx=>⟨_,rfl,S,Φ,aM,cx,Br.intro (λh=>λw G cx=>hf ?_ cx) (λhb2=>λw G cx=>(oL aO (-1) 2).a3g.use cx λw cx=>⟨_,rfl,S,Φ,aM,cx,Br.intro (λh=>λw G cx=>hf ?_ cx) (λhb3=>Br.intro (λh=>λw G cx=>hf ?_ cx) (λhb4=>λw G cx=>(a7D q qc l 1 term mF hlen).use cx λw cx=>⟨_,rfl,S,Φ,aM,cx,Br.intro (λh=>λw G cx=>hf ?_ cx) (λhb5=>?_)⟩))⟩)⟩)⟩
 .unfold OE;rw [Bool.eq_false_iff];intro hr;simp only [Bool.and_eq_true,decide_eq_true_eq,Bool.not_eq_true',Bool.and_eq_false_iff,decide_eq_false_iff_not] at hr h;omega
 .unfold OE;rw [Bool.eq_false_iff];intro hr;simp only [Bool.and_eq_true,decide_eq_true_eq,Bool.not_eq_true',Bool.and_eq_false_iff,decide_eq_false_iff_not] at hr h;omega
 .unfold OE;rw [Bool.eq_false_iff];intro hr;simp only [Bool.and_eq_true,decide_eq_true_eq,Bool.not_eq_true',Bool.and_eq_false_iff,decide_eq_false_iff_not] at hr h;omega
 .unfold OE;rw [Bool.eq_false_iff];intro hr;simp only [Bool.and_eq_true,decide_eq_true_eq] at hr h;omega
 .unfold OE;rw [show qO l 1 term=false by simpa using h,Bool.and_false]
 .simp only [Bool.not_eq_false',Bool.and_eq_true,decide_eq_true_eq,decide_eq_false_iff_not] at hb1 hb2 hb3 hb4 hb5;have hn:OE id term aO l=true:=by
   unfold OE;rw [hb5,Bool.and_true];simp only [Bool.and_eq_true,decide_eq_true_eq];omega
  refine ⟨[],λ_ _=>True,aM,λw G cx=>(cx.weak λ_ _ _=>trivial).right,λw G cx=>yS cx mF (by omega) λp cap w cx=>⟨p,_,cap,rfl,.buf p l.length cap (aZ l) 216 2 :: S,Φ,aM,cx,λw G cx=>(cx.weak λ_ _ _=>trivial).right,λk=>⟨λw G cx=>(cx.weak λ_ _ _=>trivial).right,λw G cx=>?_⟩⟩⟩;have hid:id=(id.toNat:Nat):=by omega
  refine h1 hn k p cap w ?_;have:=cx.left;rw [hid] at this;exact this
theorem D9{r m}(h:(decide (r.role≠1)||decide (m.term≠r.term) || !m.yes)=true):dG r m=(r,kR):=by unfold dG;rw [if_pos h]
def gU(r:dY)(m:bQ):dY:={ r with cK:=put r.cK m.src.toNat true }
def DA(r:dY)(m:bQ):dY:={ gU r m with role:=2,next:=λ_=>r.log.length+1,gJ:=λ_=>0 }
theorem xV{r m}(h:(decide (r.role≠1)||decide (m.term≠r.term) || !m.yes)=false)(h2:pG (gU r m).cK<2):dG r m=(gU r m,kR):=by
 unfold dG;rw [if_neg (by rw [h];simp)];show (if pG (gU r m).cK<2 then _ else _)=_;rw [if_pos h2];rfl
theorem uH{r m}(h:(decide (r.role≠1)||decide (m.term≠r.term) || !m.yes)=false)(h2:¬ pG (gU r m).cK<2):dG r m=(DA r m,nE (cU (DA r m))):=by
 unfold dG;rw [if_neg (by rw [h];simp)];show (if pG (gU r m).cK<2 then _ else _)=_;rw [if_neg h2];rfl
theorem a5d{r}(h:r.Ok)(m):(DA r m).Ok:=by
 have h1:=h.len;exact ⟨h.id,h.mT,h.jD,h.yQ,h.yR,h.log,h.len,.inr (.inr rfl),h.aE,λ_ i=>⟨by show 1<=r.log.length+1;omega,Nat.le_refl _,Nat.zero_le _⟩,λi=>⟨by show r.log.length+1<=4001;omega,by show 0<=4000;omega⟩⟩
def xM(v:Nat->Bool):Nat->Nat
 | 0=>0
 | k+1=>xM v k+b2n (v k)
theorem RX(v i):xM v (i+1)=xM v i+b2n (v i):=rfl
set_option maxHeartbeats 1000000 in
theorem a3m{W w S}{Φ:PW}[aB Φ]{b r p c}(cx:Ctx W w (aS b r p c++S) Φ)(hr:r.Ok)(m q qc)(h1:0<=m.src)(h2:m.src<=2){K}(hK:J0 W S Φ b (dG r m).1 (dG r m).2 λv w=>K (.returned v) w):aD F.jC #[.pointer (some ⟨b,0,none⟩),m.v q qc] w K:=by
  have hlen:=hr.len;refine gC (yK b 0 m.kind m.src m.to m.term m.index m.prev m.aE m.yes q m.aF.length qc (J:=K∘.returned) cx ?_);refine λ_ _ w G cx=>⟨r.role,cx.get 0 rfl rfl,r.term,λ_=>cx.get 0 rfl rfl,Br.intro (λh=>λw G cx=>?_) (λh=>?_)⟩
  · rw [D9 h] at hK
    exact hK.zero cx.left
  refine ⟨[],λ_ _=>True,aM,λw G cx=>(cx.weak λ_ _ _=>trivial).right,by omega,λw G cx=>⟨cx.can 0 rfl (by simp;omega),λw' hw'=>?_⟩⟩;rw [Nat.zero_add] at hw';have jZ:Ctx W w' (aS b (gU r m) p c++S++G) Φ:=gr (mL (gl cx) hw' (gU r m) (a7z (r:=r) true (by omega)) rfl);refine ⟨_,Φ,aM,jZ,λw G cx=>(cx.weak λ_ _ _=>trivial).right,λw G cx=>⟨(gU r m).cK 0,(gU r m).cK 1,(gU r m).cK 2,cx.row 0 rfl (AW (vs:=[.bool ((gU r m).cK 0),.bool ((gU r m).cK 1),.bool ((gU r m).cK 2)]) rfl),?_⟩⟩
  refine dN (λn iI R' aU k=>∃ i:Nat,iI=i/\i<=3/\n=xM (gU r m).cK i/\R'=aS b (gU r m) p c++S/\aU=Φ/\k=3 - i) ⟨⟨_,Φ,_,aM,λw G cx=>cx,0,rfl,Nat.zero_le _,rfl,rfl,rfl,rfl⟩,?_⟩;rintro n iI R1 cF k _ ⟨i,rfl,hi,rfl,rfl,rfl,rfl⟩;have hct:xM (gU r m).cK i<=3:=by
    have:∀ j,xM (gU r m).cK j<=j:=by
      intro j
      induction j with
      | zero=>exact Nat.le_refl _
      | succ j ih => unfold xM; have : b2n ((gU r m).cK j) <= 1 := by unfold b2n; split <;> omega
                     omega
    have:=this i;omega
  refine Br.intro (λhlt=>?_) (λhge=>?_)
  · have hlt:i<3:=by have:=eR hlt;omega
    refine ⟨(gU r m).cK i,⟨by omega,by omega,?_⟩,Br.intro (λhv=>⟨by unfold aY;omega,by unfold aY;omega,_,cF,3 - (i+1),aM,λw G cx=>cx,⟨i+1,rfl,by omega,?_,rfl,rfl,rfl⟩,by omega⟩) (λhv=>⟨by unfold aY;omega,_,cF,3 - (i+1),aM,λw G cx=>cx,⟨i+1,rfl,by omega,?_,rfl,rfl,rfl⟩,by omega⟩)⟩
    · match i,hlt with
      | 0,_=>rfl
      | 1,_=>rfl
      | 2,_=>rfl
    · rw [RX,hv];simp [b2n]
    · rw [RX,hv];simp [b2n]
  · have hge:i=3:=by have:=dD hge;omega
    subst hge;have hc3:xM (gU r m).cK 3=pG (gU r m).cK:=by simp [xM,pG]
    rw [hc3];refine Br.intro (λh2'=>λw G cx=>?_) (λh2'=>λw G cx=>⟨cx.can 0 rfl (by simp),λw' hw'=>?_⟩)
    · have h2':=eR h2'
      rw [xV h (by omega)] at hK;exact hK.zero cx.left
    have h2':=dD h2';rw [uH h (by omega)] at hK;have jZ:Ctx W w' (aS b { gU r m with role:=2 } p c++S++G) cF:=gr (mL (gl cx) hw' { gU r m with role:=2 } rfl rfl);refine ⟨_,cF,aM,jZ,?_⟩;refine dN (λiI R' aU k=>∃ (i:Nat) (nx mt:Nat->Nat),iI=i/\i<=3/\(∀ j,j<i->nx j=r.log.length+1/\mt j=0)/\R'=aS b { gU r m with role:=2,next:=nx,gJ:=mt } p c++S/\aU=cF/\k=3 - i) ⟨⟨_,cF,_,aM,λw G cx=>cx,0,r.next,r.gJ,rfl,Nat.zero_le _,λj h=>by omega,rfl,rfl,rfl⟩,?_⟩
    rintro iI R2 BD k _ ⟨i,nx,mt,rfl,hi,hnm,rfl,rfl,rfl⟩;refine Br.intro (λhlt=>?_) (λhge=>λw G cx=>?_)
    · have hlt:i<3:=by have:=eR hlt;omega
      refine ⟨[],λ_ _=>True,aM,λw G cx=>(cx.weak λ_ _ _=>trivial).right,λw G cx=>⟨p,r.log.length,c,cx.get 0 rfl rfl,by unfold aY;omega,by omega,λw G cx=>⟨cx.can 0 rfl (by simp;omega),λw' hw'=>?_⟩⟩⟩;rw [Nat.zero_add,Int.toNat_natCast,show ((r.log.length:Int)+1)=((r.log.length+1:Nat):Int) by omega] at hw';have jZ:=gr (mL (gl cx) hw' { gU r m with role:=2,next:=put nx i (r.log.length+1),gJ:=mt } (a0u (r:={ gU r m with role:=2,next:=nx,gJ:=mt }) (r.log.length+1) hlt) rfl)
      refine ⟨_,BD,aM,jZ,λw G cx=>(cx.weak λ_ _ _=>trivial).right,by omega,λw G cx=>⟨cx.can 0 rfl (by simp;omega),λw' hw'=>?_⟩⟩;rw [Nat.zero_add,Int.toNat_natCast] at hw';have jZ:=gr (mL (gl cx) hw' { gU r m with role:=2,next:=put nx i (r.log.length+1),gJ:=put mt i 0 } (aCJ (r:={ gU r m with role:=2,next:=put nx i (r.log.length+1),gJ:=mt }) 0 hlt) rfl);refine ⟨_,BD,aM,jZ,λw G cx=>(cx.weak λ_ _ _=>trivial).right,by unfold aY;omega,_,BD,3 - (i+1),aM,λw G cx=>cx,⟨i+1,put nx i (r.log.length+1),put mt i 0,rfl,by omega,λj hj=>?_,rfl,rfl,rfl⟩,by omega⟩
      unfold put;by_cases hji:j=i
      · rw [if_pos hji,if_pos hji];exact ⟨rfl,rfl⟩
      · rw [if_neg hji,if_neg hji];exact hnm j (by omega)
    · have hge:i=3:=by have:=dD hge;omega
      subst hge;have hcells:({ gU r m with role:=2,next:=nx,gJ:=mt }:dY).cells p c=(DA r m).cells p c:=by
        simp only [dY.cells,DA,(hnm 0 (by omega)).1,(hnm 1 (by omega)).1,(hnm 2 (by omega)).1,(hnm 0 (by omega)).2,(hnm 1 (by omega)).2,(hnm 2 (by omega)).2]
      have jZ:Ctx W w (aS b (DA r m) p c++(S++G)) BD:=by
        have:=gl cx;unfold aS at this;rw [hcells] at this;exact this
      have hlo:=a5d hr m;exact Y1 jZ hlo (λi hi=>hlo.fit rfl hi) λq cap w h1 h2 cx=>⟨q,_,cap,rfl,aS b (DA r m) p c++S,λM w=>BD M w/\Sl M w q (cU (DA r m)),aM,gr cx,λw G cx=>hK.sent h1 h2 (Ctx.left (F:=G) (Φ:=λM w=>BD M w/\Sl M w q (cU (DA r m))) cx)⟩
def OG(r:dY)(l:List Nat):Nat:=l.foldl (λa i=>max a (r.gJ i)) 0
theorem a7E{r}{l:List Nat}{i}(h:i<l.length):OG r (l.take (i+1))=max (OG r (l.take i)) (r.gJ l[i]):=by
 unfold OG;rw [List.take_succ_eq_append_getElem h,List.foldl_append];rfl
theorem a3n{r n}(h:∀ i,r.gJ i<=n)(l):OG r l<=n:=by
 have:∀ (l:List Nat) (a:Nat),a<=n->l.foldl (λa i=>max a (r.gJ i)) a<=n:=by
  intro l
  induction l with
  | nil=>intro a h;exact h
  | cons x l ih=>intro a ha;exact ih _ (Nat.max_le.2 ⟨ha,h x⟩)
 exact this l 0 (Nat.zero_le _)
set_option maxHeartbeats 1000000 in
theorem a7F{W w S}{Φ:PW}[aB Φ]{b r p c}(cx:Ctx W w (aS b r p c++S) Φ)(hid:r.id<=2)(hlen:r.log.length<=4000)(hm:∀ i,r.gJ i<=r.log.length){K}(hK:∀ w',Ctx W w' (aS b (b9 r) p c++S) Φ->K (.returned (.tuple #[])) w'):aD F.lG #[.pointer (some ⟨b,0,none⟩)] w K:=by
 have hol:=qP r.id;refine gC (wS b 0 (J:=K∘.returned) cx ?_);refine λw G cx=>OB hid (gl cx) λk rest w cx=>⟨some ⟨k,0,none⟩,2,3,rfl,aS b r p c++(.blk k ((aT r.id).map (λx:Nat=>lJ (x:Int))++rest) 3 :: S),Φ,aM,gr (Q:=aS b r p c) (T:=.blk k ((aT r.id).map (λx:Nat=>lJ (x:Int))++rest) 3 :: S) (mid cx),?_⟩;refine dN (λn iI R' aU m=>∃ i:Nat,iI=i/\i<=2/\n=OG r ((aT r.id).take i)/\R'=aS b r p c++(.blk k ((aT r.id).map (λx:Nat=>lJ (x:Int))++rest) 3 :: S)/\aU=Φ/\m=2 - i) ⟨⟨_,Φ,_,aM,λw G cx=>cx,0,rfl,Nat.zero_le _,rfl,rfl,rfl,rfl⟩,?_⟩
 rintro n iI R1 cF m _ ⟨i,rfl,hi,rfl,rfl,rfl,rfl⟩;refine Br.intro (λhlt=>?_) (λhge=>λw G cx=>?_)
 .have hlt:i<2:=by have:=eR hlt;omega
  have hio:i<(aT r.id).length:=by omega
  have hn3:=(D8 _ (List.getElem_mem hio)).1;refine ⟨by omega,aW k 0 rfl λw G cx=>⟨((aT r.id)[i]:Nat),?_,by omega,λw G cx=>⟨(r.gJ (aT r.id)[i]:Nat),?_,by unfold aY;omega,_,cF,2 - (i+1),aM,λw G cx=>cx,⟨i+1,rfl,by omega,?_,rfl,rfl,rfl⟩,by omega⟩⟩⟩
  .rw [Int.toNat_natCast,Nat.zero_add];refine cx.get 2 rfl ?_;rw [List.getElem?_append_left (by rw [List.length_map];omega),List.getElem?_map,List.getElem?_eq_getElem hio];rfl
  .rw [Int.toNat_natCast,Nat.zero_add];exact cx.get 0 rfl (KK hn3)
  .rw [a7E hio];omega
 .have hge:i=2:=by have:=dD hge;omega
  subst hge;have htk:(aT r.id).take 2=aT r.id:=by rw [<-hol,List.take_length]
  rw [htk];have hml:=a3n hm (aT r.id);have A8:∀ {w:World} {G:List Own} {r':dY},Ctx W w (aS b r' p c++(.blk k ((aT r.id).map (λx:Nat=>lJ (x:Int))++rest) 3 :: S)++G) cF->Ctx W w (aS b r' p c++S) cF:=λcx=>(front cx.left).drop1;refine ⟨r.aE,cx.get 0 rfl rfl,_,λ_ w' hw=>a5a (EN (gl cx)) rfl hml hlen hw,r.term,λ_=>cx.get 0 rfl rfl,Br.intro (λh=>λw G cx=>⟨cx.can 0 rfl (by simp),λw' hw'=>?_⟩) (λh=>λw G cx=>?_)⟩
  .have ha:b9 r={ r with aE:=C7 r }:=by
    unfold b9;rw [if_pos];simp only [Bool.and_eq_true,decide_eq_true_eq] at h ⊢;exact ⟨by have:=h.1;show r.aE<OG r (aT r.id);omega,h.2⟩
   rw [ha] at hK;have jZ:=gr (mL (gl cx) hw' { r with aE:=C7 r } rfl rfl);exact ⟨_,cF,aM,jZ,λw G cx=>hK w (A8 cx)⟩
  .have ha:b9 r=r:=by
    unfold b9;rw [if_neg];intro h';simp only [Bool.and_eq_true,decide_eq_true_eq,Bool.and_eq_false_iff,decide_eq_false_iff_not] at h h';rcases h with h|h
    .have:=h'.1;change r.aE<OG r (aT r.id) at this;omega
    .exact h h'.2
   rw [ha] at hK;exact hK w (A8 cx)
def AZ(r:dY)(m:bQ):dY:={ r with next:=put r.next m.src.toNat (max (r.gJ m.src.toNat+1) (min (r.next m.src.toNat - 1) (m.index.toNat+1))) }
def pW(r:dY)(m:bQ):dY:={ r with gJ:=put r.gJ m.src.toNat (max (r.gJ m.src.toNat) m.index.toNat),next:=put r.next m.src.toNat (max (r.gJ m.src.toNat) m.index.toNat+1) }
theorem r8{r m}(h:(decide (r.role≠2)||decide (m.term≠r.term)||m.yes&&decide ((r.log.length:Int)<m.index))=true):aV r m=(r,kR):=by unfold aV;rw [if_pos h]
theorem mX{r m}(h:(decide (r.role≠2)||decide (m.term≠r.term)||m.yes&&decide ((r.log.length:Int)<m.index))=false)(hy:m.yes=false):aV r m=(AZ r m,nE [entriesOf (AZ r m) m.src.toNat]):=by
 unfold aV;rw [if_neg (by rw [h];simp)];simp only [hy,if_true];rfl
theorem oM{r m}(h:(decide (r.role≠2)||decide (m.term≠r.term)||m.yes&&decide ((r.log.length:Int)<m.index))=false)(hy:m.yes=true):
  aV r m=if max (r.gJ m.src.toNat) m.index.toNat+1<=r.log.length then (b9 (pW r m),nE [entriesOf (b9 (pW r m)) m.src.toNat]) else (b9 (pW r m),kR):=by
 unfold aV;rw [if_neg (by rw [h];simp)];simp only [hy,Bool.true_eq_false,if_false];rfl
theorem aCL{r}(h:r.Ok)(hr:r.role=2)(m):(AZ r m).Ok:=by
 have h1:=h.len;have h2:=h.next hr m.src.toNat;refine ⟨h.id,h.mT,h.jD,h.yQ,h.yR,h.log,h.len,h.role,h.aE,λ_ i=>?_,λi=>?_⟩
 .have h3:=h.next hr i;show 1<=put r.next _ _ i/\put r.next _ _ i<=r.log.length+1/\r.gJ i<=r.log.length;unfold put;split
  .omega
  .exact h3
 .have h3:=h.next hr i;show put r.next _ _ i<=4001/\r.gJ i<=4000;unfold put;split<;>omega
theorem aIk{r}(h:r.Ok)(hr:r.role=2)(m)(hm:m.index.toNat<=r.log.length):(pW r m).Ok:=by
 have h1:=h.len;have h2:=h.next hr m.src.toNat;refine ⟨h.id,h.mT,h.jD,h.yQ,h.yR,h.log,h.len,h.role,h.aE,λ_ i=>?_,λi=>?_⟩
 .have h3:=h.next hr i;show 1<=put r.next _ _ i/\put r.next _ _ i<=r.log.length+1/\put r.gJ _ _ i<=r.log.length;unfold put;split
  .omega
  .exact h3
 .have h3:=h.next hr i;show put r.next _ _ i<=4001/\put r.gJ _ _ i<=4000;unfold put;split<;>omega
theorem aIl{r}(h:r.Ok)(hr:r.role=2):(b9 r).Ok:=by
 unfold b9;split
 .refine ⟨h.id,h.mT,h.jD,h.yQ,h.yR,h.log,h.len,h.role,?_,h.next,h.bound⟩;exact a3n (λi=>(h.next hr i).2.2) (aT r.id)
 .exact h
theorem a5e(r):(b9 r).role=r.role/\(b9 r).log=r.log/\(b9 r).next=r.next/\(b9 r).gJ=r.gJ/\(b9 r).id=r.id/\(b9 r).term=r.term/\(b9 r).aO=r.aO:=by
 unfold b9;split<;>exact ⟨rfl,rfl,rfl,rfl,rfl,rfl,rfl⟩
set_option maxHeartbeats 1000000 in
theorem J1{W w S G}{Φ:PW}[aB Φ]{b r p c q cap n}(cx:Ctx W w (aS b r p c++S++G) (λM w=>Φ M w/\Sl M w q (entriesOf r n).aF))(hm:(entriesOf r n).Ok)(h1:(entriesOf r n).aF.length<=cap)(h2:cap<=maxLen){K}(hK:J0 W S Φ b r (nE [entriesOf r n]) K){K2}(hk2:∀ q w',Ctx W w' (aS b r p c++S++G) (λM w=>Φ M w/\Sl M w q [entriesOf r n])->(∀ w G',Ctx W w (aS b r p c++S++G') (λM w=>Φ M w/\Sl M w q [entriesOf r n])->K (XK (nE [entriesOf r n]) none 0 q 1) w)->K2 (.returned (XK (nE [entriesOf r n]) none 0 q 1)) w'):
  aD F.fD #[(entriesOf r n).v q cap] w K2:=by
 have hst:aB (λM w=>Φ M w/\Sl M w q (entriesOf r n).aF):=aM;refine a0t cx (entriesOf r n) q cap hm h1 h2 (λM w h=>h.2) λq2 w cx=>hk2 q2 w (cx.weak λM w h=>⟨h.1.1,h.2⟩) λw G' cx=>?_;have hst:aB (λM w=>Φ M w/\Sl M w q2 [entriesOf r n]):=aM;exact hK.sent (by simp) (by simp [maxLen]) (Ctx.left (F:=G') cx)
set_option maxHeartbeats 1000000 in
theorem RY{W w S}{Φ:PW}[aB Φ]{b r p c}(cx:Ctx W w (aS b r p c++S) Φ)(hr:r.Ok)(m q qc)(h1:0<=m.src)(h2:m.src<=2)(h3:0<=m.index)(h4:m.index<=4000){K}(hK:J0 W S Φ b (aV r m).1 (aV r m).2 λv w=>K (.returned v) w):aD F.gW #[.pointer (some ⟨b,0,none⟩),m.v q qc] w K:=by
 have hlen:=hr.len;have hsr:m.src=(m.src.toNat:Nat):=by omega
 have hs3:m.src.toNat<3:=by omega
 refine gC (vO b 0 m.kind m.src m.to m.term m.index m.prev m.aE m.yes q m.aF.length qc (J:=K∘.returned) cx ?_);refine λ_ _ w G cx=>⟨r.role,cx.get 0 rfl rfl,r.term,λ_=>cx.get 0 rfl rfl,p,r.log.length,c,λ_=>cx.get 0 rfl rfl,Br.intro (λh=>λw G cx=>?_) (λh=>λw G cx=>⟨by omega,by omega,Br.intro (λhy=>λw G cx=>?_) (λhy=>λw G cx=>?_)⟩)⟩
 .rw [r8 h] at hK;exact hK.zero cx.left
 .have hy:m.yes=false:=by simpa using hy
  rw [mX h hy] at hK;have cY:r.role=2:=by
   simp only [Bool.or_eq_false_iff,decide_eq_false_iff_not] at h;exact Decidable.not_not.1 h.1.1
  have hn:=hr.next cY m.src.toNat;have hbo:=aCL hr cY m;refine ⟨(r.gJ m.src.toNat:Nat),by rw [Nat.zero_add];exact cx.get 0 rfl (KK hs3),λw G cx=>⟨(r.next m.src.toNat:Nat),by rw [Nat.zero_add];exact cx.get 0 rfl (OD hs3),by unfold aY;omega,by unfold aY;omega,by unfold aY;omega,λw G cx=>⟨cx.can 0 rfl (by simp;omega),λw' hw'=>?_⟩⟩⟩;have hval:max ((r.gJ m.src.toNat:Int)+1) (min ((r.next m.src.toNat:Int) - 1) (m.index+1))=((max (r.gJ m.src.toNat+1) (min (r.next m.src.toNat - 1) (m.index.toNat+1)):Nat):Int):=by omega
  rw [Nat.zero_add,hval] at hw';have jZ:Ctx W w' (aS b (AZ r m) p c++S++G) Φ:=gr (mL (gl cx) hw' (AZ r m) (a0u (r:=r) _ hs3) rfl);refine ⟨_,Φ,aM,jZ,λw G cx=>?_⟩;refine IZ (gl cx) hbo.aF m.src.toNat hsr (hbo.fit cY hs3) λq2 cap2 w g1 g2 cx=>?_;have hst:aB (λM w=>Φ M w/\Sl M w q2 (entriesOf (AZ r m) m.src.toNat).aF):=aM;refine ⟨_,_,_,_,_,_,_,_,q2,_,cap2,rfl,aS b (AZ r m) p c++S,λM w=>Φ M w/\Sl M w q2 (entriesOf (AZ r m) m.src.toNat).aF,hst,gr cx,λw G cx=>?_⟩
  refine J1 cx (EO hbo (hbo.fit cY hs3)) g1 g2 hK λq3 w cx A8=>⟨_,_,_,_,none,_,0,q3,_,1,rfl,aS b (AZ r m) p c++S,λM w=>Φ M w/\Sl M w q3 [entriesOf (AZ r m) m.src.toNat],aM,cx,λw G cx=>A8 w G cx⟩
 .have hy:m.yes=true:=by simpa using hy
  rw [oM h hy] at hK;simp only [Bool.or_eq_false_iff,decide_eq_false_iff_not,hy,Bool.true_and] at h;have cY:r.role=2:=Decidable.not_not.1 h.1.1;have hix:m.index.toNat<=r.log.length:=by have:=h.2;omega
  have hn:=hr.next cY m.src.toNat;have hfo:=aIk hr cY m hix;obtain ⟨e1,e2,e3,e4,e5,e6,e7⟩:=a5e (pW r m);have hao:=aIl hfo cY;refine ⟨(r.gJ m.src.toNat:Nat),by rw [Nat.zero_add];exact cx.get 0 rfl (KK hs3),λw G cx=>⟨cx.can 0 rfl (by simp;omega),λw' hw'=>?_⟩⟩;have hval:max (r.gJ m.src.toNat:Int) m.index=((max (r.gJ m.src.toNat) m.index.toNat:Nat):Int):=by omega
  rw [Nat.zero_add,hval] at hw';have jZ:=gr (mL (gl cx) hw' { r with gJ:=put r.gJ m.src.toNat (max (r.gJ m.src.toNat) m.index.toNat) } (aCJ (r:=r) _ hs3) rfl);have OH:({ r with gJ:=put r.gJ m.src.toNat (max (r.gJ m.src.toNat) m.index.toNat) }:dY).gJ m.src.toNat=max (r.gJ m.src.toNat) m.index.toNat:=by simp [put]
  refine ⟨_,Φ,aM,jZ,λw G cx=>⟨((max (r.gJ m.src.toNat) m.index.toNat:Nat):Int),?_,by unfold aY;omega,λw G cx=>⟨cx.can 0 rfl (by simp;omega),λw' hw'=>?_⟩⟩⟩
  .rw [Nat.zero_add];have:=cx.get 0 rfl (KK (r:={ r with gJ:=put r.gJ m.src.toNat (max (r.gJ m.src.toNat) m.index.toNat) }) (p:=p) (c:=c) hs3);rw [OH] at this;exact this
  rw [Nat.zero_add,show (((max (r.gJ m.src.toNat) m.index.toNat:Nat):Int)+1)=((max (r.gJ m.src.toNat) m.index.toNat+1:Nat):Int) by omega] at hw';have jZ:Ctx W w' (aS b (pW r m) p c++S++G) Φ:=gr (mL (gl cx) hw' (pW r m) (a0u (r:={ r with gJ:=put r.gJ m.src.toNat (max (r.gJ m.src.toNat) m.index.toNat) }) _ hs3) rfl);refine ⟨_,Φ,aM,jZ,λw G cx=>a7F (gl cx) hr.id hlen (λi=>(hfo.next cY i).2.2) λw cx=>⟨rfl,aS b (b9 (pW r m)) p c++S,Φ,aM,gr cx,λw G cx=>⟨((max (r.gJ m.src.toNat) m.index.toNat+1:Nat):Int),?_,p,(b9 (pW r m)).log.length,c,cx.get 0 rfl rfl,Br.intro (λhle=>λw G cx=>?_) (λhle=>λw G cx=>?_)⟩⟩⟩
  .rw [Nat.zero_add];have:=cx.get 0 rfl (OD (r:=b9 (pW r m)) (p:=p) (c:=c) hs3);rw [e3] at this;have e8:(pW r m).next m.src.toNat=max (r.gJ m.src.toNat) m.index.toNat+1:=by simp [pW,put]
   rw [e8] at this;exact this
  .have hle:=eR hle;rw [e2] at hle;have hle:max (r.gJ m.src.toNat) m.index.toNat+1<=r.log.length:=by
    have:(pW r m).log=r.log:=rfl;rw [this] at hle;omega
   rw [if_pos hle] at hK;have hro:(b9 (pW r m)).role=2:=by rw [e1];exact cY
   refine IZ (gl cx) hao.aF m.src.toNat hsr (hao.fit hro hs3) λq2 cap2 w g1 g2 cx=>?_;have hst:aB (λM w=>Φ M w/\Sl M w q2 (entriesOf (b9 (pW r m)) m.src.toNat).aF):=aM;refine ⟨_,_,_,_,_,_,_,_,q2,_,cap2,rfl,aS b (b9 (pW r m)) p c++S,λM w=>Φ M w/\Sl M w q2 (entriesOf (b9 (pW r m)) m.src.toNat).aF,hst,gr cx,λw G cx=>?_⟩;refine J1 cx (EO hao (hao.fit hro hs3)) g1 g2 hK λq3 w cx A8=>⟨_,_,_,_,none,_,0,q3,_,1,rfl,aS b (b9 (pW r m)) p c++S,λM w=>Φ M w/\Sl M w q3 [entriesOf (b9 (pW r m)) m.src.toNat],aM,cx,λw G cx=>A8 w G cx⟩
  .have hle:=dD hle;rw [e2] at hle;have hle:¬ max (r.gJ m.src.toNat) m.index.toNat+1<=r.log.length:=by
    have:(pW r m).log=r.log:=rfl;rw [this] at hle;omega
   rw [if_neg hle] at hK;exact hK.zero cx.left
abbrev DB:List Value:=[.bool false,.int .i64 0,.int .i64 0,.int .i64 0,.slice none 0 0,.slice none 0 0]
def tM(r:dY)(data:ByteArray):dY:={ r with log:=r.log++[⟨r.term,data⟩] }
theorem xN{r data}(h:r.role≠2):aL r data=(r,0,24,kR):=by unfold aL;rw [if_pos h]
theorem vW{r data}(h:¬ r.role≠2)(h2:2000<(data.size:Int)):aL r data=(r,0,1,kR):=by unfold aL;rw [if_neg h,if_pos h2]
theorem r9{r data}(h:¬ r.role≠2)(h2:¬ 2000<(data.size:Int))(h3:r.log.length=4000):aL r data=(r,0,6,kR):=by unfold aL;rw [if_neg h,if_neg h2,if_pos h3]
theorem B0{r data}(h:¬ r.role≠2)(h2:¬ 2000<(data.size:Int))(h3:¬ r.log.length=4000):
  aL r data=(tM r data,((r.log.length+1:Nat):Int),0,⟨false,0,0,((r.log.length+1:Nat):Int),[⟨r.term,data⟩],cU (tM r data)⟩):=by unfold aL;rw [if_neg h,if_neg h2,if_neg h3];rfl
theorem a7G{l t x}(h:lI l t)(h1:1<=x.term)(h2:x.term<=t)(h3:x.data.size<=2000)(h4:∀ y∈l,y.term<=x.term):lI (l++[x]) t:=by
 refine ⟨λy hy=>?_,λy hy=>?_,λy hy=>?_,λi j hij hj hi=>?_⟩
 .rcases List.mem_append.1 hy with hy|hy
  .exact h.lo y hy
  .rw [List.mem_singleton.1 hy];exact h1
 .rcases List.mem_append.1 hy with hy|hy
  .exact h.hi y hy
  .rw [List.mem_singleton.1 hy];exact h2
 .rcases List.mem_append.1 hy with hy|hy
  .exact h.data y hy
  .rw [List.mem_singleton.1 hy];exact h3
 .rw [List.length_append,List.length_singleton] at hj hi;by_cases hjl:j<l.length
  .rw [List.getElem_append_left (by omega),List.getElem_append_left hjl];exact h.W8 i j hij hjl (by omega)
  .have hj':j=l.length:=by omega
   subst hj';rw [List.getElem_append_right (Nat.le_refl _)];simp only [Nat.sub_self,List.getElem_cons_zero];by_cases hil:i<l.length
   .rw [List.getElem_append_left hil];exact h4 _ (List.getElem_mem hil)
   .have:i=l.length:=by omega
    subst this;rw [List.getElem_append_right (Nat.le_refl _)];simp
theorem a7H{r data}(h:r.Ok)(hr:r.role=2)(ht:1<=r.term)(h2:¬ 2000<(data.size:Int))(h3:¬ r.log.length=4000):(tM r data).Ok:=by
 have hl:=h.len;have hlen:(tM r data).log.length=r.log.length+1:=by simp [tM]
 refine ⟨h.id,h.mT,h.jD,h.yQ,h.yR,?_,by rw [hlen];omega,h.role,by rw [hlen];have:=h.aE;show r.aE<=_;omega,λ_ i=>?_,λi=>?_⟩
 .exact a7G h.log ht (Int.le_refl _) (by simp only;omega) h.log.hi
 .have:=h.next hr i;rw [hlen];show 1<=r.next i/\r.next i<=r.log.length+1+1/\r.gJ i<=r.log.length+1;omega
 .exact h.bound i
set_option maxHeartbeats 2000000 in
theorem a7I{W w S}{Φ:PW}[aB Φ]{b r p c}(cx:Ctx W w (aS b r p c++S) Φ)(hr:r.Ok)(ht:r.role=2->1<=r.term)(data){K}(hK:J0 W S Φ b (aL r data).1 (aL r data).2.2.2 λv w=>K (.returned (.tuple #[.int .i64 (aL r data).2.1,.int .i64 (aL r data).2.2.1,v])) w):aD F.l9 #[.pointer (some ⟨b,0,none⟩),.string data] w K:=by
 have hlen:=hr.len;refine gC (wM b 0 data (J:=K∘.returned) cx ?_);refine λk0 w G cx=>⟨r.role,cx.get 1 rfl rfl,Br.intro (λh=>λw G cx=>⟨cx.can 0 rfl (by simp),λw' hw'=>?_⟩) (λh=>Br.intro (λh2=>λw G cx=>⟨cx.can 0 rfl (by simp),λw' hw'=>?_⟩) (λh2=>λw G cx=>⟨p,r.log.length,c,cx.get 1 rfl rfl,Br.intro (λh3=>λw G cx=>⟨cx.can 0 rfl (by simp),λw' hw'=>?_⟩) (λh3=>λw G cx=>⟨r.term,cx.get 1 rfl rfl,λ_=>?_⟩)⟩))⟩
 .rw [xN (eR h)] at hK;have jZ:Ctx W w' (.blk k0 DB 146 :: (aS b r p c++S)++G) Φ:=cx.FL 0 hw' rfl;exact ⟨_,Φ,aM,jZ,λw G cx=>⟨_,_,_,_,none,_,0,none,_,0,cx.DV 0 rfl,λw G cx=>hK.zero cx.left.drop1⟩⟩
 .rw [vW (dD h) (eR h2)] at hK;have jZ:Ctx W w' (.blk k0 DB 146 :: (aS b r p c++S)++G) Φ:=cx.FL 0 hw' rfl;exact ⟨_,Φ,aM,jZ,λw G cx=>⟨_,_,_,_,none,_,0,none,_,0,cx.DV 0 rfl,λw G cx=>hK.zero cx.left.drop1⟩⟩
 .rw [r9 (dD h) (dD h2) (by have:=eR h3;omega)] at hK;have jZ:Ctx W w' (.blk k0 DB 146 :: (aS b r p c++S)++G) Φ:=cx.FL 0 hw' rfl;exact ⟨_,Φ,aM,jZ,λw G cx=>⟨_,_,_,_,none,_,0,none,_,0,cx.DV 0 rfl,λw G cx=>hK.zero cx.left.drop1⟩⟩
 have h:=dD h;have h2:=dD h2;have h3':¬ r.log.length=4000:=λe=>(dD h3) (by omega);have cY:r.role=2:=Decidable.not_not.1 h;rw [B0 h h2 h3'] at hK;have hpo:=a7H hr cY (ht cY) h2 h3';have hpl:(tM r data).log.length=r.log.length+1:=by simp [tM]
 refine ⟨[.blk b (r.cells p c) 278],λ_ _=>True,aM,λw G cx=>(cx.weak λ_ _ _=>trivial).sub (List.Sublist.cons _ (List.Sublist.cons_cons _ (List.Sublist.cons _ (List.sublist_append_right _ _)))),p,r.log.length,c,λw G cx=>⟨p,r.log.length,c,cx.get 0 rfl rfl,rfl⟩,λk1=>⟨λw G cx=>(cx.weak λ_ _ _=>trivial).sub (List.Sublist.cons _ (List.Sublist.cons _ (List.Sublist.cons_cons _ (List.Sublist.cons _ (List.sublist_append_right _ _))))),λw G cx=>?_⟩⟩
 have jZ:Ctx W w (.blk k1 [.int .i64 r.term,.string data] 216 :: .buf p r.log.length c (aZ r.log) 216 2 :: ([.blk k0 DB 146,.blk b (r.cells p c) 278]++(S++G))) Φ :=
  cx.perm (List.Perm.cons _ (List.perm_middle (l₁:=[Own.blk k0 DB 146,Own.blk b (r.cells p c) 278])))
 obtain ⟨p',cap',w',hrun,_,cx'⟩:=Ctx.a2i (P:=prog) (ts:=99) (ty:=99) (kb:=#[false,false]) (size:=2) (bytes:=24) jZ (by kernel_rfl) (by omega) rfl rfl (by omega) (by omega);refine ⟨p',r.log.length+1,cap',w',hrun,.buf p' (r.log.length+1) cap' (aZ r.log++[Value.int .i64 r.term,Value.string data]) 216 2 :: .blk k0 DB 146 :: .blk b (r.cells p c) 278 :: S,Φ,aM,cx',λw G cx=>(cx.weak λ_ _ _=>trivial).sub (List.Sublist.cons _ (List.Sublist.cons _ (List.Sublist.cons_cons _ (List.sublist_append_right _ _)))),λw G cx=>⟨cx.can 2 rfl (by simp),λw' hw'=>?_⟩⟩
 have hc:(r.cells p c).set 3 (.slice p' (r.log.length+1) cap')=(tM r data).cells p' cap':=by simp [dY.cells,tM]
 have hb:aZ r.log++[.int .i64 r.term,.string data]=aZ (tM r data).log:=by
  show _=aZ (r.log++[⟨r.term,data⟩]);rw [RR];rfl
 have jZ:Ctx W w' (aS b (tM r data) p' cap'++.blk k0 DB 146 :: S++G) Φ:=by
  have h1:Ctx W w' (.buf p' (r.log.length+1) cap' (aZ r.log++[.int .i64 r.term,.string data]) 216 2 :: .blk k0 DB 146 :: .blk b ((r.cells p c).set 3 (.slice p' (r.log.length+1) cap')) 278 :: S++G) Φ:=cx.put 2 hw' rfl;rw [hc,hb,<-hpl] at h1;exact h1.perm (List.perm_middle (l₁:=[Own.buf p' (tM r data).log.length cap' (aZ (tM r data).log) 216 2,Own.blk k0 DB 146]))
 generalize J2:tM r data=r1 at *;have hfit:∀ i,i<3->Fit r1 i:=λi hi=>hpo.fit (by rw [<-J2];exact cY) hi;have hst:∀ q,aB (λM w=>Φ M w/\Sl M w q (cU r1)):=λq=>aM;have hal:(cU r1).length=2:=by unfold cU;rw [List.length_map,qP]
 have tail:∀ (k:Nat) (q:Option Addr) (cap:Nat),(cU r1).length<=cap->cap<=maxLen->∀ (w:World) (G:List Own),Ctx W w (.blk k [.int .i64 r.term,.string data] 216 :: (aS b r1 p' cap'++.blk k0 DB 146 :: S)++G) (λM w=>Φ M w/\Sl M w q (cU r1)) ->
   aG w k0 0 6/\∀ w',w'=w.setCells k0 0 [.bool false,.int .i64 0,.int .i64 0,.int .i64 (r1.log.length:Nat),.slice (some (Addr.mk k 0 none)) 1 1,.slice q (cU r1).length cap] ->
    ∃ (R:List Own) (aU:PW),aB aU/\Ctx W w' (R++G) aU/\(∀ (w:World) (F':List Own),Ctx W w (R++F') aU->Ctx W w ([.blk b (r1.cells p' cap') 278]++F') (λ_ _=>True)) /\
     ∀ (w:World) (F':List Own),Ctx W w (R++F') aU->∃ (c1:Bool) (n1 n2 n3:Int) (p1:Option Addr) (k1 k2:Nat) (p2:Option Addr) (k3 k4:Nat),bM w k0 0 [.bool c1,.int .i64 n1,.int .i64 n2,.int .i64 n3,.slice p1 k1 k2,.slice p2 k3 k4] /\
      ∀ (w:World) (F':List Own),Ctx W w (R++F') aU->K (.returned (.tuple #[.int .i64 (r1.log.length:Nat),.int .i64 0,.agg #[.bool c1,.int .i64 n1,.int .i64 n2,.int .i64 n3,.slice p1 k1 k2,.slice p2 k3 k4]])) w:=by
  intro k q cap hcap hmax w G cx;refine ⟨cx.can 3 rfl (by simp),λw' hw'=>?_⟩;have CD:=cx.FL 3 hw' rfl;refine ⟨.blk k [.int .i64 r.term,.string data] 216 :: (aS b r1 p' cap'++.blk k0 [.bool false,.int .i64 0,.int .i64 0,.int .i64 (r1.log.length:Nat),.slice (some (Addr.mk k 0 none)) 1 1,.slice q (cU r1).length cap] 146 :: S),_,hst q,CD,λw G cx=>(cx.weak λ_ _ _=>trivial).sub (List.Sublist.cons _ (List.Sublist.cons_cons _ (List.Sublist.cons _ (List.Sublist.cons _ (List.sublist_append_right _ _))))),λw G cx=>⟨_,_,_,_,_,_,_,_,_,_,cx.DV 3 rfl,λw G cx=>?_⟩⟩
  have hxo:((⟨r.term,data⟩:bT)).Ok:=⟨by have:=hr.mT;have:=hr.jD;show aY r.term;unfold aY;omega,by show data.size<=maxLen;unfold maxLen;omega⟩;have:=hst q;obtain ⟨Y0,hs⟩:=cx.left.D5 (α:=bT) (l:=[⟨r.term,data⟩]) (dP.one (aCH hxo));have cx4:=(front (Y0.add (Ψ:=λM w=>Sl M w (some ⟨k,0,none⟩) [(⟨r.term,data⟩:bT)]) hs)).drop1;have:=hK p' cap' (some ⟨k,0,none⟩) 1 q cap w (by simp) (by simp [maxLen]) hcap hmax (cx4.weak λM w h=>⟨h.1.1,h.2,h.1.2⟩)
  rw [hpl];exact this
 refine ⟨_,Φ,aM,jZ,[.blk b (r1.cells p' cap') 278],λ_ _=>True,aM,λw G cx=>(cx.weak λ_ _ _=>trivial).sub (List.Sublist.cons_cons _ (List.Sublist.cons _ (List.Sublist.cons _ (List.sublist_append_right _ _)))),p',r1.log.length,cap',λw G cx=>⟨p',r1.log.length,cap',cx.get 0 rfl rfl,rfl⟩,p',r1.log.length,cap',λw G cx=>⟨p',r1.log.length,cap',cx.get 0 rfl rfl,rfl⟩,⟨λk2=>⟨λw G cx=>(cx.weak λ_ _ _=>trivial).sub (List.Sublist.cons _ (List.Sublist.cons_cons _ (List.Sublist.cons _ (List.Sublist.cons _ (List.sublist_append_right _ _))))),λw G cx=>?_,trivial⟩,λw G cx=>?_,trivial⟩⟩
 .have cx5:Ctx W w (.blk k2 [.int .i64 r.term,.string data] 216 :: (aS b r1 p' cap'++(.blk k0 DB 146 :: (S++G)))) Φ:=cx.re (by simp);refine Y1 (mid cx5) hpo hfit λq cap w g1 g2 cx=>⟨q,_,cap,rfl,.blk k2 [.int .i64 r.term,.string data] 216 :: (aS b r1 p' cap'++.blk k0 DB 146 :: S),_,hst q,?_,λw G cx=>(cx.weak λ_ _ _=>trivial).sub (List.Sublist.cons _ (List.Sublist.cons_cons _ (List.Sublist.cons _ (List.Sublist.cons _ (List.sublist_append_right _ _))))),λw G cx=>tail k2 q cap g1 g2 w G cx,trivial⟩
  have:=hst q;exact (front cx).re (by simp)
 .refine Y1 (gl cx) hpo hfit λq cap w g1 g2 cx=>⟨q,_,cap,rfl,aS b r1 p' cap'++.blk k0 DB 146 :: S,_,hst q,gr cx,λw G cx=>(cx.weak λ_ _ _=>trivial).sub (List.Sublist.cons_cons _ (List.Sublist.cons _ (List.Sublist.cons _ (List.sublist_append_right _ _)))),λk2=>⟨λw G cx=>(cx.weak λ_ _ _=>trivial).sub (List.Sublist.cons _ (List.Sublist.cons_cons _ (List.Sublist.cons _ (List.Sublist.cons _ (List.sublist_append_right _ _))))),λw G cx=>tail k2 q cap g1 g2 w G cx,trivial⟩,trivial⟩
theorem J3:∀ a b:List bT,agree a b<=b.length
 | [],b=>by cases b<;>simp [agree]
 | x :: a,[]=>by simp [agree]
 | x :: a,y :: b=>by
  unfold agree;split
  .have:=J3 a b;simp only [List.length_cons];omega
  .simp
theorem J4:∀ a b:List bT,agree a b<=a.length
 | [],b=>by cases b<;>simp [agree]
 | x :: a,[]=>by simp [agree]
 | x :: a,y :: b=>by
  unfold agree;split
  .have:=J4 a b;simp only [List.length_cons];omega
  .simp
theorem a0w{l rs:List bT}{n j}(hj:j<rs.length):agree (l.drop (n+j)) (rs.drop j)=if (decide (n+j<l.length)&&decide (bE l (n+j+1)=rs[j].term))=true then agree (l.drop (n+j+1)) (rs.drop (j+1))+1 else 0:=by
 rw [List.drop_eq_getElem_cons hj];by_cases h:n+j<l.length
 .rw [List.drop_eq_getElem_cons h,decide_eq_true h,Bool.true_and,vV h];by_cases ht:l[n+j].term=rs[j].term
  .rw [if_pos (decide_eq_true ht)];simp [agree,ht]
  .rw [if_neg (by simp [ht])];simp [agree,ht]
 .rw [decide_eq_false h,Bool.false_and,if_neg (by simp),List.drop_eq_nil_of_le (by omega)];rfl
theorem uI{r m}(h:m.term<r.term):bA r m=(r,nE [r6 r 3 m.src]):=by unfold bA;rw [if_pos h]
theorem rA{r m}(h:¬ m.term<r.term)(h2:r.role=2):bA r m=(r,kR):=by unfold bA;rw [if_neg h,if_pos h2]
def wV(r:dY):dY:={ r with role:=0 }
def a5f(r:dY)(m:bQ):bQ:=⟨3,r.id,m.src,r.term,min (r.log.length:Int) (m.index - 1),0,0,false,[]⟩
theorem uJ{r m}(h:¬ m.term<r.term)(h2:¬ r.role=2)(h3:(decide ((r.log.length:Int)<m.index)||decide (bE r.log m.index.toNat≠m.prev))=true):bA r m=(wV r,nE [a5f r m]):=by unfold bA;rw [if_neg h,if_neg h2];simp only;rw [if_pos h3];rfl
def a2k(r:dY)(m:bQ):Nat:=max r.aE (min m.aE.toNat (m.index.toNat+m.aF.length))
def gF(r:dY)(m:bQ):Nat:=agree (r.log.drop m.index.toNat) m.aF
def aIm(r:dY)(m:bQ):dY:={ r with role:=0,aE:=a2k r m }
def J5(r:dY)(m:bQ)(k:Nat):dY:={ r with role:=0,log:=r.log.take (m.index.toNat+k)++m.aF.drop k,aE:=a2k r m }
theorem rC{r m}(h:¬ m.term<r.term)(h2:¬ r.role=2)(h3:(decide ((r.log.length:Int)<m.index)||decide (bE r.log m.index.toNat≠m.prev))=false)(h4:¬ gF r m<m.aF.length):bA r m=(aIm r m,nE [pU r m]):=by
 unfold bA;rw [if_neg h,if_neg h2];simp only;rw [if_neg (by rw [h3];simp),if_neg (show ¬ agree (r.log.drop m.index.toNat) m.aF<m.aF.length from h4)];rfl
theorem rD{r m}(h:¬ m.term<r.term)(h2:¬ r.role=2)(h3:(decide ((r.log.length:Int)<m.index)||decide (bE r.log m.index.toNat≠m.prev))=false)(h4:gF r m<m.aF.length)(h5:m.index.toNat+gF r m+1<=r.aE):bA r m=(wV r,kR):=by
 unfold bA;rw [if_neg h,if_neg h2];simp only;rw [if_neg (by rw [h3];simp),if_pos (show agree (r.log.drop m.index.toNat) m.aF<m.aF.length from h4),if_pos (show m.index.toNat+agree (r.log.drop m.index.toNat) m.aF+1<=r.aE from h5)];rfl
theorem uK{r m}(h:¬ m.term<r.term)(h2:¬ r.role=2)(h3:(decide ((r.log.length:Int)<m.index)||decide (bE r.log m.index.toNat≠m.prev))=false)(h4:gF r m<m.aF.length)(h5:¬ m.index.toNat+gF r m+1<=r.aE):
  bA r m=(J5 r m (gF r m),⟨false,0,0,((m.index.toNat+gF r m+1:Nat):Int),m.aF.drop (gF r m),[pU r m]⟩):=by
 unfold bA;rw [if_neg h,if_neg h2];simp only;rw [if_neg (by rw [h3];simp),if_pos (show agree (r.log.drop m.index.toNat) m.aF<m.aF.length from h4),if_neg (show ¬ m.index.toNat+agree (r.log.drop m.index.toNat) m.aF+1<=r.aE from h5)];rfl
structure bQ.sO(id:Nat)(m:bQ):Prop where
 kind:0<=m.kind/\m.kind<=3
 to:m.to=id
 src:m.src≠id/\0<=m.src/\m.src<=2
 term:1<=m.term/\m.term<=1099511627776
 index:0<=m.index/\m.index<=4000
 prev:0<=m.prev/\m.prev<=m.term
 zero:m.index=0->m.prev=0
 aE:0<=m.aE/\m.aE<=4000
 len:m.aF.length<=8
 fits:m.index+m.aF.length<=4000
 sound:qO m.aF (max 1 m.prev) m.term=true
theorem lK{id m}:iV id m=true ↔ m.sO id:=by
 unfold iV;simp only [Bool.and_eq_true,Bool.not_eq_true',Bool.and_eq_false_iff,decide_eq_true_eq,decide_eq_false_iff_not];constructor
 .rintro ⟨⟨⟨⟨⟨⟨⟨⟨⟨⟨⟨⟨⟨⟨⟨⟨⟨h1,h2⟩,h3⟩,h4⟩,h5⟩,h6⟩,h7⟩,h8⟩,h9⟩,h10⟩,h11⟩,h12⟩,h13⟩,h14⟩,h15⟩,h16⟩,h17⟩,h18⟩;exact ⟨⟨h1,h2⟩,h3,⟨h4,h5,h6⟩,⟨h7,h8⟩,⟨h9,h10⟩,⟨h11,h12⟩,λh=>by omega,⟨h14,h15⟩,by omega,h17,h18⟩
 .intro h;obtain ⟨a1,a2⟩:=h.kind;obtain ⟨b1,b2,b3⟩:=h.src;obtain ⟨c1,c2⟩:=h.term;obtain ⟨d1,d2⟩:=h.index;obtain ⟨e1,e2⟩:=h.prev;obtain ⟨f1,f2⟩:=h.aE;have:=h.len;have:=h.zero;exact ⟨⟨⟨⟨⟨⟨⟨⟨⟨⟨⟨⟨⟨⟨⟨⟨⟨a1,a2⟩,h.to⟩,b1⟩,b2⟩,b3⟩,c1⟩,c2⟩,d1⟩,d2⟩,e1⟩,e2⟩,by omega⟩,f1⟩,f2⟩,by omega⟩,h.fits⟩,h.sound⟩
theorem a0x:∀ (l:List bT) (least most:Int),qO l least most=true->(∀ x∈l,least<=x.term/\x.term<=most/\x.data.size<=2000)/\∀ i j,i<=j->(hj:j<l.length)->(hi:i<l.length)->l[i].term<=l[j].term
 | [],_,_,_=>⟨λx hx=>(by cases hx),λi j _ hj=>(by simp at hj)⟩
 | x :: l,least,most,h=>by
  unfold qO at h;split at h
  .cases h
  rename_i h1;simp only [Bool.or_eq_true,decide_eq_true_eq,not_or] at h1;obtain ⟨h2,h3⟩:=a0x l x.term most h;refine ⟨λy hy=>?_,λi j hij hj hi=>?_⟩
  .rcases List.mem_cons.1 hy with rfl|hy
   .omega
   .have:=h2 y hy;omega
  .cases i with
   | zero =>
    cases j with
    | zero=>exact Int.le_refl _
    | succ j=>simp only [List.getElem_cons_zero,List.getElem_cons_succ];exact (h2 _ (List.getElem_mem _)).1
   | succ i =>
    cases j with
    | zero=>omega
    | succ j=>simp only [List.getElem_cons_succ];exact h3 i j (by omega) _ _
set_option maxHeartbeats 4000000 in
theorem a0y{W w S}{Φ:PW}[aB Φ]{b r p c}(cx:Ctx W w (aS b r p c++S) Φ)(hr:r.Ok)(m)(hm:m.sO r.id)(q qc)(mF:∀ M w,Φ M w->Sl M w q m.aF)(hqc:m.aF.length<=qc){K}(hK:J0 W S Φ b (bA r m).1 (bA r m).2 λv w=>K (.returned v) w):aD F.iU #[.pointer (some ⟨b,0,none⟩),m.v q qc] w K:=by
 have hlen:=hr.len;have hcm:=hr.aE;obtain ⟨hs1,hs2,hs3⟩:=hm.src;obtain ⟨hi1,hi2⟩:=hm.index;obtain ⟨hc1,MO⟩:=hm.aE;have hl8:=hm.len;have hfit:=hm.fits;have ht0:=hr.mT;have htM:=hr.jD;have hix:m.index=(m.index.toNat:Nat):=by omega
 have hth:a3h q m.aF.length:=(mF _ _ cx.uX).there;have b1O:∀ x∈m.aF,x.Ok:=aIh (mF _ _ cx.uX);have hzero:(aS b { r with role:=(0:Int) } p c)=aS b (wV r) p c:=rfl;refine gC (xI b 0 m.kind m.src m.to m.term m.index m.prev m.aE m.yes q m.aF.length qc (J:=K∘.returned) cx ?_);refine λ_ _ w G cx=>AY (gl cx) 3 m.src λw cx=>⟨_,_,_,_,_,_,_,_,none,_,0,rfl,aS b r p c++S,Φ,aM,gr cx,λk w G cx=>⟨cx.can 0 rfl (by simp),λw' hw'=>?_⟩⟩
 have jZ:Ctx W w' (aS b r p c++.blk k ((r6 r 3 m.src).cells none 0) 271 :: S++G) Φ:=sink (cx.FL 0 hw' rfl);have aWq:=EP hr (kind:=3) (to:=m.src) (index:=0) (prev:=0) (yes:=false) (by omega) (by omega) (by omega) (by omega);refine ⟨_,Φ,aM,jZ,λw G cx=>⟨r.term,cx.get 0 rfl rfl,Br.intro (λh=>λw G cx=>⟨_,_,_,_,_,_,_,_,none,_,0,cx.DV 2 rfl,λw G cx=>?_⟩) (λh=>λw G cx=>⟨r.role,cx.get 0 rfl rfl,Br.intro (λh2=>λw G cx=>?_) (λh2=>λw G cx=>⟨cx.can 0 rfl (by simp),λw' hw'=>?_⟩)⟩)⟩⟩
 .rw [uI (eR h)] at hK;refine aCK cx aWq rfl hK λq w cx A8=>⟨_,_,_,_,none,_,0,q,_,1,rfl,_,_,aM,cx,λw G cx=>A8 w G cx⟩
 .rw [rA (dD h) (eR h2)] at hK;exact hK.zero (lift cx).drop1.left
 have h:=dD h;have h2:=dD h2;have jZ:Ctx W w' (aS b (wV r) p c++.blk k ((r6 r 3 m.src).cells none 0) 271 :: S++G) Φ:=gr (mL (gl cx) hw' (wV r) rfl rfl);refine ⟨_,Φ,aM,jZ,λw G cx=>⟨p,r.log.length,c,cx.get 0 rfl rfl,bE r.log m.index.toNat,λhle w' hw=>a5a (r:=wV r) (EN (gl cx)) hix ?_ hlen hw,Br.intro (λh3=>?_) (λh3=>?_)⟩⟩
 .simp only [Bool.not_eq_true',decide_eq_false_iff_not] at hle;show m.index.toNat<=r.log.length;omega
 .rw [uJ h h2 h3] at hK;refine ⟨by unfold aY;omega,λw G cx=>⟨p,r.log.length,c,cx.get 0 rfl rfl,λw G cx=>⟨cx.can 2 rfl (by simp),λw' hw'=>?_⟩⟩⟩;have jZ:Ctx W w' (aS b (wV r) p c++.blk k ((a5f r m).cells none 0) 271 :: S++G) Φ:=cx.put 2 hw' rfl;refine ⟨_,Φ,aM,jZ,λw G cx=>⟨_,_,_,_,_,_,_,_,none,_,0,cx.DV 2 rfl,λw G cx=>?_⟩⟩;have hno:(a5f r m).Ok:=EP hr (by omega) (by omega) (by omega) (by omega);refine aCK (r:=wV r) cx hno rfl hK λq w cx A8=>⟨_,_,_,_,none,_,0,q,_,1,rfl,_,_,aM,cx,λw G cx=>A8 w G cx⟩
 have hle:m.index.toNat<=r.log.length:=by
  simp only [Bool.or_eq_false_iff,decide_eq_false_iff_not] at h3;omega
 have hao:(pU r m).Ok:=EP hr (by omega) (by omega) (by omega) (by omega);refine λ_=>dN (λjI a0 a1 a2 a3 a4 a5 a6 a7 a8 a9 sv tm vt fr rp rn rc sp sn sc R' aU kk=>∃ j:Nat,jI=j/\j<=m.aF.length/\sv=false/\tm=0/\vt=0/\fr=0/\rp=none/\rn=0/\rc=0/\sp=none/\sn=0/\sc=0/\R'=aS b (wV r) p c++.blk k ((r6 r 3 m.src).cells none 0) 271 :: S/\aU=Φ/\kk=m.aF.length - j/\gF r m=j+agree (r.log.drop (m.index.toNat+j)) (m.aF.drop j))
  ⟨⟨_,Φ,_,aM,λw G cx=>cx,0,rfl,Nat.zero_le _,rfl,rfl,rfl,rfl,rfl,rfl,rfl,rfl,rfl,rfl,rfl,rfl,rfl,by simp [gF]⟩,?_⟩
 rintro jI _ _ _ _ _ _ _ _ _ _ _ _ _ _ _ _ _ _ _ _ R1 cF kk _ ⟨j,rfl,hj,rfl,rfl,rfl,rfl,rfl,rfl,rfl,rfl,rfl,rfl,rfl,rfl,rfl,hag⟩;have A8:∀ (r2:dY) (p2:Option Addr) (c2:Nat) (Ψ:PW),aB Ψ->r2.id=r.id->r2.term=r.term->r2.aE=r.aE->∀ (w:World) (G:List Own),Ctx W w (aS b r2 p2 c2++.blk k ((r6 r 3 m.src).cells none 0) 271 :: S++G) Ψ ->
   aG w k 7 1/\∀ w',w'=w.setCell (Addr.mk k 7 none) (.bool true)->Ctx W w' (aS b r2 p2 c2++.blk k ((⟨3,r.id,m.src,r.term,0,0,0,true,[]⟩:bQ).cells none 0) 271 :: S++G) Ψ :=
  λr2 p2 c2 Ψ hst e1 e2 e3 w G cx=>⟨cx.can 2 rfl (by simp),λw' hw'=>cx.put 2 hw' rfl⟩
 have hval:m.index+(m.aF.length:Int)=(m.index+m.aF.length:Int):=rfl;have hcv:∀ r2:dY,r2.aE=r.aE->max (r2.aE:Int) (min m.aE (m.index+(m.aF.length:Int)))=((a2k r m:Nat):Int):=λr2 e=>by rw [e];unfold a2k;omega
 refine Br.intro (λhlt=>?_) (λhge=>?_)
 .have hlt:j<m.aF.length:=by simpa using hlt
  obtain ⟨qb,qo,rfl⟩:=hth (by omega);refine ⟨by omega,aW qb qo rfl λw G cx=>⟨m.aF[j].term,m.aF[j].data,by rw [Int.toNat_natCast];exact OC (mF _ _ cx.uX) hlt,λ_=>⟨by unfold aY;omega,by unfold aY;omega,λw G cx=>⟨p,r.log.length,c,cx.get 0 rfl rfl,bE r.log (m.index.toNat+j+1),λaIn w' hw=>a5a (r:=wV r) (EN (gl cx)) (by omega) ?_ hlen hw,Br.intro (λheq=>?_) (λhne=>?_)⟩⟩⟩⟩
  .have:=eR aIn;show m.index.toNat+j+1<=r.log.length;omega
  .refine ⟨by unfold aY;omega,_,cF,m.aF.length - (j+1),aM,λw G cx=>cx,⟨j+1,rfl,hlt,rfl,rfl,rfl,rfl,rfl,rfl,rfl,rfl,rfl,rfl,rfl,rfl,rfl,?_⟩,by omega⟩;rw [a0w hlt,if_pos] at hag
   .rw [show m.index.toNat+(j+1)=m.index.toNat+j+1 by omega];omega
   .simp only [Bool.and_eq_true,decide_eq_true_eq] at heq ⊢;exact ⟨by omega,heq.2⟩
  .rw [a0w hlt,if_neg] at hag
   case hnc =>
    intro h';simp only [Bool.and_eq_true,decide_eq_true_eq,Bool.and_eq_false_iff,decide_eq_false_iff_not] at hne h';rcases hne with hne|hne
    .omega
    .exact hne h'.2
   have hag:gF r m=j:=by omega
   refine λw G cx=>⟨r.aE,cx.get 0 rfl rfl,Br.intro (λh5=>λw G cx=>?_) (λh5=>?_)⟩
   .rw [rD h h2 h3 (by omega) (by have:=eR h5;omega)] at hK;exact hK.zero (lift cx).drop1.left
   have h5:=dD h5;rw [uK h h2 h3 (by omega) (by omega),hag] at hK;have htl:(r.log.take (m.index.toNat+j)).length=m.index.toNat+j:=by
    rw [List.length_take];have:=J4 (r.log.drop m.index.toNat) m.aF;rw [List.length_drop] at this;unfold gF at hag;omega
   have hjl:m.index.toNat+j<=r.log.length:=by rw [List.length_take] at htl;omega
   refine ⟨by omega,λw G cx=>?_⟩;rw [Int.toNat_natCast,show m.aF.length - j=(m.aF.drop j).length by rw [List.length_drop]];refine yS cx (λM w h=>a7t (mF M w h) j hqc) (by rw [List.length_drop];omega) λrp aQB w cx=>?_;obtain ⟨_,b1Q,b1R⟩:=cx.tT 0 rfl;obtain ⟨CD,hs,_⟩:=Ctx.freeze (α:=bT) cx (uF λx hx=>b1O x (List.mem_of_mem_drop hx));have hst:aB (λM w=>cF M w/\Sl M w rp (m.aF.drop j)):=aM;refine ⟨rp,_,aQB,rfl,_,λM w=>cF M w/\Sl M w rp (m.aF.drop j),hst,CD.add hs,[.blk b ((wV r).cells p c) 278],λ_ _=>True,aM,λw G cx=>(cx.weak λ_ _ _=>trivial).sub (List.Sublist.cons_cons _ (List.Sublist.cons _ (List.Sublist.cons _ (List.sublist_append_right _ _)))),by unfold aY;omega,p,r.log.length,c,λw G cx=>⟨p,r.log.length,c,cx.get 0 rfl rfl,rfl⟩,?_,λw G cx=>?_⟩
   .have hc:=(cx.tT 2 rfl).2.1;have hc:r.log.length<=c:=hc;omega
   have hcap:r.log.length<=c:=(cx.tT 1 rfl).2.1;have hlk:(m.index+(j:Int)+1 - 1).toNat=m.index.toNat+j:=by omega
   have hsp:dA p 2 0 c=p:=by
    unfold dA;split
    .rfl
    .cases p with
     | none=>rfl
     | some a=>simp [Addr.add]
   rw [hlk,hsp,<-htl];have Y0:Ctx W w (.blk k ((r6 r 3 m.src).cells none 0) 271 :: S++G) (j8 W (aS b (wV r) p c) (λM w=>cF M w/\Sl M w rp (m.aF.drop j))):=cx.aQt;refine yS Y0 (λM w h=>Sl.take (aAz h (n:=r.log.length) (c:=c) (List.mem_cons_of_mem _ List.mem_cons_self) hr.aF) _) (by show (r.log.take _).length<_;rw [htl];omega) λnp aQC w cx=>?_;have cx4:Ctx W w (aS b (wV r) p c++(.buf np (r.log.take (m.index.toNat+j)).length aQC (aZ (r.log.take (m.index.toNat+j))) 216 2 :: .blk k ((r6 r 3 m.src).cells none 0) 271 :: S)++G) (λM w=>cF M w/\Sl M w rp (m.aF.drop j)):=Ctx.aH9 (T:=.buf np (r.log.take (m.index.toNat+j)).length aQC (aZ (r.log.take (m.index.toNat+j))) 216 2 :: .blk k ((r6 r 3 m.src).cells none 0) 271 :: S) cx
   refine ⟨np,_,aQC,rfl,_,_,hst,cx4,λw G cx=>(cx.weak λ_ _ _=>trivial).sub (List.Sublist.cons_cons _ (List.Sublist.cons _ (List.Sublist.cons _ (List.Sublist.cons _ (List.sublist_append_right _ _))))),λw G cx=>?_⟩;have cx5:=lift (Q:=aS b (wV r) p c) cx;obtain ⟨p',cap',w',news,hrun,_,cx'⟩:=Ctx.aH8 (P:=prog) (α:=bT) (ts:=99) (ty:=99) (kb:=#[false,false]) (bytes:=24) (c2:=aQB) cx5 (by kernel_rfl) aCI (λM w h=>h.2) (by rw [List.length_drop];omega) (by rw [htl,List.length_drop];omega) (by omega)
   have hnews:=(a0q cx'.uX.2).1;subst hnews;have hnl:(r.log.take (m.index.toNat+j)).length+(m.aF.drop j).length=(J5 r m j).log.length:=by show _=(r.log.take (m.index.toNat+j)++m.aF.drop j).length;rw [List.length_append]
   have hnc:aZ (r.log.take (m.index.toNat+j))++aZ (m.aF.drop j)=aZ (J5 r m j).log:=by rw [<-RR];rfl
   rw [hnl] at hrun;rw [hnl,hnc] at cx';have cx6:Ctx W w' (.buf p' (J5 r m j).log.length cap' (aZ (J5 r m j).log) 216 2 :: (aS b (wV r) p c++(.blk k ((r6 r 3 m.src).cells none 0) 271 :: S))++G) (λM w=>cF M w/\Sl M w rp (m.aF.drop j)):=cx'.weak λM w h=>h.1;refine ⟨p',_,cap',w',hrun,_,_,hst,cx6,λw G cx=>(cx.weak λ_ _ _=>trivial).sub (List.Sublist.cons _ (List.Sublist.cons_cons _ (List.Sublist.cons _ (List.Sublist.cons _ (List.sublist_append_right _ _))))),λw G cx=>⟨cx.can 1 rfl (by simp),λw' hw'=>?_⟩⟩
   have hcells:((wV r).cells p c).set 3 (.slice p' (J5 r m j).log.length cap')=({ J5 r m j with aE:=r.aE }:dY).cells p' cap':=by simp [dY.cells,J5,wV]
   have cx7:Ctx W w' (aS b { J5 r m j with aE:=r.aE } p' cap'++.blk k ((r6 r 3 m.src).cells none 0) 271 :: S++G) (λM w=>cF M w/\Sl M w rp (m.aF.drop j)):=by
    have h1:Ctx W w' (.buf p' (J5 r m j).log.length cap' (aZ (J5 r m j).log) 216 2 :: .blk b (((wV r).cells p c).set 3 (.slice p' (J5 r m j).log.length cap')) 278 :: .buf p r.log.length c (aZ r.log) 216 2 :: (.blk k ((r6 r 3 m.src).cells none 0) 271 :: S++G)) (λM w=>cF M w/\Sl M w rp (m.aF.drop j)):=cx.put 1 hw' rfl;rw [hcells] at h1;exact (h1.sub (List.Sublist.cons_cons _ (List.Sublist.cons_cons _ (List.sublist_cons_self _ _)))).swap
   refine ⟨_,_,hst,cx7,[],λ_ _=>True,aM,λw G cx=>(cx.weak λ_ _ _=>trivial).right,by unfold aY;omega,λw G cx=>?_⟩;obtain ⟨g1,g2⟩:=A8 { J5 r m j with aE:=r.aE } p' cap' _ hst rfl rfl rfl w G cx;refine ⟨g1,λw' hw'=>⟨_,_,hst,g2 w' hw',λw G cx=>(cx.weak λ_ _ _=>trivial).right,λw G cx=>⟨cx.can 2 rfl (by simp),λw' hw'=>?_⟩⟩⟩;have cx8:Ctx W w' (aS b { J5 r m j with aE:=r.aE } p' cap'++.blk k ((pU r m).cells none 0) 271 :: S++G) (λM w=>cF M w/\Sl M w rp (m.aF.drop j)):=cx.put 2 hw' rfl
   refine ⟨_,_,hst,cx8,λw G cx=>⟨_,cx.get 2 rfl rfl,λw G cx=>⟨_,cx.get 0 rfl rfl,λw G cx=>⟨cx.can 0 rfl (by simp),λw' hw'=>?_⟩⟩⟩⟩;rw [show max (r.aE:Int) (min m.aE (pU r m).index)=((a2k r m:Nat):Int) from hcv { J5 r m j with aE:=r.aE } rfl] at hw';have cx9:Ctx W w' (aS b (J5 r m j) p' cap'++.blk k ((pU r m).cells none 0) 271 :: S++G) (λM w=>cF M w/\Sl M w rp (m.aF.drop j)):=gr (mL (gl cx) hw' (J5 r m j) rfl rfl)
   refine ⟨_,_,hst,cx9,λw G cx=>⟨_,_,_,_,_,_,_,_,none,_,0,cx.DV 2 rfl,λk2 w G cx=>?_⟩⟩;obtain ⟨aQD,hs2⟩:=cx.D5 (dP.one (RU (x:=pU r m) hao (Nat.le_refl _) (by simp [maxLen]) Sl.nil));have b1U:=(lift (aQD.add (Ψ:=λM w=>Sl M w (some ⟨k2,0,none⟩) [pU r m]) hs2)).drop1.left;have hkk:=hK p' cap' rp aQB (some ⟨k2,0,none⟩) 1 w b1Q b1R (by simp) (by simp [maxLen]) (b1U.weak λM w h=>⟨h.1.1,h.1.2,h.2⟩);rw [show m.index+(j:Int)+1=((m.index.toNat+j+1:Nat):Int) by omega]
   exact hkk
 .have hge:j=m.aF.length:=Nat.le_antisymm hj (by simpa using hge);subst hge;rw [List.drop_length] at hag;have hag:¬ gF r m<m.aF.length:=by omega
  rw [rC h h2 h3 hag] at hK;refine ⟨[],λ_ _=>True,aM,λw G cx=>(cx.weak λ_ _ _=>trivial).right,by unfold aY;omega,λw G cx=>?_⟩;obtain ⟨g1,g2⟩:=A8 (wV r) p c cF aM rfl rfl rfl w G cx;refine ⟨g1,λw' hw'=>⟨_,cF,aM,g2 w' hw',λw G cx=>(cx.weak λ_ _ _=>trivial).right,λw G cx=>⟨cx.can 2 rfl (by simp),λw' hw'=>?_⟩⟩⟩;have cx8:Ctx W w' (aS b (wV r) p c++.blk k ((pU r m).cells none 0) 271 :: S++G) cF:=cx.put 2 hw' rfl
  refine ⟨_,cF,aM,cx8,λw G cx=>⟨_,cx.get 2 rfl rfl,λw G cx=>⟨_,cx.get 0 rfl rfl,λw G cx=>⟨cx.can 0 rfl (by simp),λw' hw'=>?_⟩⟩⟩⟩;rw [show max ((wV r).aE:Int) (min m.aE (pU r m).index)=((a2k r m:Nat):Int) from hcv (wV r) rfl] at hw';have cx9:Ctx W w' (aS b (aIm r m) p c++.blk k ((pU r m).cells none 0) 271 :: S++G) cF:=gr (mL (gl cx) hw' (aIm r m) rfl rfl);refine ⟨_,cF,aM,cx9,λw G cx=>⟨_,_,_,_,_,_,_,_,none,_,0,cx.DV 2 rfl,λk2 w G cx=>?_⟩⟩
  obtain ⟨aQD,hs2⟩:=cx.D5 (dP.one (RU (x:=pU r m) hao (Nat.le_refl _) (by simp [maxLen]) Sl.nil));exact hK.sent (by simp) (by simp [maxLen]) (lift (aQD.add (Ψ:=λM w=>Sl M w (some ⟨k2,0,none⟩) [pU r m]) hs2)).drop1.left
def C8(r:dY)(x:dY × mK):dY × mK:=if (decide (x.1.term=r.term)&&decide (x.1.aO=r.aO))=true then x else (x.1,{ x.2 with save:=true,term:=x.1.term,aO:=x.1.aO })
def upR(r:dY)(m:bQ):dY:={ r with term:=m.term,aO := -1,role:=0 }
def dQ(r1:dY)(m:bQ):dY × mK:=if m.kind=0 then dI r1 m else if m.kind=1 then dG r1 m else if m.kind=2 then bA r1 m else aV r1 m
theorem vF{r m}(h:iV r.id m=false):cX r m=(r,kR):=by unfold cX;rw [if_pos h]
theorem pX{r m}(h:iV r.id m=true):cX r m=C8 r (dQ (if r.term<m.term then upR r m else r) m):=by unfold cX;rw [if_neg (by rw [h];simp)];rfl
theorem aOf{r}(h:r.Ok)(m)(hm:m.sO r.id)(ht:r.term<m.term):(upR r m).Ok:=by
 have h1:=h.mT;have h2:=hm.term.2;refine ⟨h.id,by show 0<=m.term;omega,h2,by show (-1:Int) <= -1;omega,by show (-1:Int)<=2;omega,⟨h.log.lo,λx hx=>?_,h.log.data,h.log.W8⟩,h.len,.inl rfl,h.aE,λhr=>?_,h.bound⟩
 .have:=h.log.hi x hx;show x.term<=m.term;omega
 .cases (show (0:Int)=2 from hr)
theorem aMd:tI prog 143=true:=by kernel_rfl
theorem rE{W S G}{Φ:PW}[aB Φ]{b r x J}(hK:J0 W S Φ b (C8 r x).1 (C8 r x).2 J):
  J0 W (S++G) Φ b x.1 x.2 (λv w=>∃ (c:Bool) (n1 n2 n3:Int) (p1:Option Addr) (k1 k2:Nat) (p2:Option Addr) (k3 k4:Nat),Ending.returned v=.returned (.agg #[.bool c,.int .i64 n1,.int .i64 n2,.int .i64 n3,.slice p1 k1 k2,.slice p2 k3 k4]) /\
   ∃ (R:List Own) (aU:PW),aB aU/\Ctx W w (R++G) aU/\∀ (w:World) (F:List Own),Ctx W w (R++F) aU->∃ (a1 a2:Int),bM w b (0+1) [.int .i64 a1,.int .i64 a2]/\tI prog 143=true /\
    Br (!(decide (a1=r.term)&&(decide (a2=r.aO)&&true)))
     (∃ (R2:List Own) (BD:PW),aB BD/\(∀ (w:World) (F:List Own),Ctx W w (R++F) aU->Ctx W w (R2++F) BD)/\∃ (b1 b2:Int),(∀ (w:World) (F:List Own),Ctx W w (R2++F) BD->∃ (d1 d2:Int),bM w b (0+1) [.int .i64 d1,.int .i64 d2]/\Value.agg #[.int .i64 d1,.int .i64 d2]=Value.agg #[.int .i64 b1,.int .i64 b2]) /\
      (∀ (w:World) (F:List Own),Ctx W w (R++F) aU->Ctx W w (R2++F) BD)/\(∀ (w:World) (F:List Own),Ctx W w (R++F) aU->Ctx W w (R2++F) BD)/\∀ (w:World) (F:List Own),Ctx W w (R++F) aU->J (.agg #[.bool true,.int .i64 b1,.int .i64 b2,.int .i64 n3,.slice p1 k1 k2,.slice p2 k3 k4]) w)
     (∀ (w:World) (F:List Own),Ctx W w (R++F) aU->J (.agg #[.bool c,.int .i64 n1,.int .i64 n2,.int .i64 n3,.slice p1 k1 k2,.slice p2 k3 k4]) w)):=by
 obtain ⟨r',o⟩:=x;intro p' c' q1 c1 q2 c2 w h1 h2 h3 h4 cx;have hrow:∀ {w:World} {F:List Own},Ctx W w (aS b r' p' c'++S++F) (a5b Φ q1 o.aF q2 o.send)->bM w b (0+1) [.int .i64 r'.term,.int .i64 r'.aO]:=λcx=>cx.row 0 rfl (AW (vs:=[.int .i64 r'.term,.int .i64 r'.aO]) rfl);refine ⟨_,_,_,_,q1,_,c1,q2,_,c2,rfl,aS b r' p' c'++S,a5b Φ q1 o.aF q2 o.send,aM,gr cx,λw F cx=>⟨r'.term,r'.aO,hrow cx,aMd,Br.intro (λhd=>?_) (λhd=>?_)⟩⟩
 .have hf:C8 r (r',o)=(r',{ o with save:=true,term:=r'.term,aO:=r'.aO }):=by
   unfold C8;rw [if_neg];intro h;simp only [Bool.and_true,Bool.not_eq_true'] at hd;rw [hd] at h;cases h
  rw [hf] at hK;exact ⟨aS b r' p' c'++S,a5b Φ q1 o.aF q2 o.send,aM,λw F cx=>cx,r'.term,r'.aO,λw F cx=>⟨_,_,hrow cx,rfl⟩,λw F cx=>cx,λw F cx=>cx,λw F cx=>hK p' c' q1 c1 q2 c2 w h1 h2 h3 h4 cx.left⟩
 .have hf:C8 r (r',o)=(r',o):=by
   unfold C8;rw [if_pos];simpa using hd
  rw [hf] at hK;exact λw F cx=>hK p' c' q1 c1 q2 c2 w h1 h2 h3 h4 cx.left
set_option maxHeartbeats 2000000 in
theorem aIo{W w S}{Φ:PW}[aB Φ]{b r p c}(cx:Ctx W w (aS b r p c++S) Φ)(hr:r.Ok)(m)(hmo:m.Ok)(q qc)(mF:∀ M w,Φ M w->Sl M w q m.aF)(hqc:m.aF.length<=qc)(hqm:qc<=maxLen){K}(hK:J0 W S Φ b (cX r m).1 (cX r m).2 λv w=>K (.returned v) w):aD F.nY #[.pointer (some ⟨b,0,none⟩),m.v q qc] w K:=by
 refine gC (zN b 0 m.kind m.src m.to m.term m.index m.prev m.aE m.yes q m.aF.length qc (J:=K∘.returned) cx ?_);refine λ_ _ w G cx=>aEs (gl cx) m q qc mF (Nat.le_trans hqc (Nat.le_trans hqm (by decide))) hmo.index λw cx=>⟨_,rfl,aS b r p c++S,Φ,aM,gr cx,Br.intro (λh=>λw G cx=>?_) (λh=>λw G cx=>⟨r.term,r.aO,cx.row 0 rfl (AW (vs:=[.int .i64 r.term,.int .i64 r.aO]) rfl),λ_ w G cx=>⟨r.term,cx.get 0 rfl rfl,Br.intro (λht=>λw G cx=>⟨cx.can 0 rfl (by simp),λw' hw'=>?_⟩) (λht=>?_)⟩⟩)⟩
 .rw [vF (by simpa using h)] at hK;exact hK.zero cx.left
 all_goals
  have hy:iV r.id m=true:=by simpa using h
  have hmr:=lK.1 hy;obtain ⟨hs1,hs2,hs3⟩:=hmr.src;obtain ⟨hk1,hk2⟩:=hmr.kind;obtain ⟨hi1,hi2⟩:=hmr.index;rw [pX hy] at hK
 .have ht:=eR ht;rw [if_pos ht] at hK;have hu:=aOf hr m hmr ht;have jZ:=gr (a0v (gl cx) hw' { r with term:=m.term,aO := -1 } rfl rfl);refine ⟨_,Φ,aM,jZ,λw G cx=>⟨cx.can 0 rfl (by simp),λw' hw'=>?_⟩⟩;have jZ:Ctx W w' (aS b (upR r m) p c++S++G) Φ:=gr (mL (gl cx) hw' (upR r m) rfl rfl);refine ⟨_,Φ,aM,jZ,λ_=>Br.intro (λk0=>λw G cx=>?_) (λk0=>Br.intro (λk1=>λw G cx=>?_) (λk1=>Br.intro (λk2=>λw G cx=>?_) (λk2=>Br.intro (λk3=>λw G cx=>?_) (λk3=>?_))))⟩
  .rw [show dQ (upR r m) m=dI (upR r m) m by unfold dQ;rw [if_pos (eR k0)]] at hK;exact a7A (gl cx) hu m q qc hs2 hs3 (rE hK)
  .rw [show dQ (upR r m) m=dG (upR r m) m by unfold dQ;rw [if_neg (dD k0),if_pos (eR k1)]] at hK;exact a3m (gl cx) hu m q qc hs2 hs3 (rE hK)
  .rw [show dQ (upR r m) m=bA (upR r m) m by unfold dQ;rw [if_neg (dD k0),if_neg (dD k1),if_pos (eR k2)]] at hK;exact a0y (gl cx) hu m hmr q qc mF hqc (rE hK)
  .rw [show dQ (upR r m) m=aV (upR r m) m by unfold dQ;rw [if_neg (dD k0),if_neg (dD k1),if_neg (dD k2)]] at hK;exact RY (gl cx) hu m q qc hs2 hs3 hi1 hi2 (rE hK)
  .exfalso;have:=dD k0;have:=dD k1;have:=dD k2;have:=dD k3;omega
 .have ht:=dD ht;rw [if_neg ht] at hK;refine λ_=>Br.intro (λk0=>λw G cx=>?_) (λk0=>Br.intro (λk1=>λw G cx=>?_) (λk1=>Br.intro (λk2=>λw G cx=>?_) (λk2=>Br.intro (λk3=>λw G cx=>?_) (λk3=>?_))))
  .rw [show dQ r m=dI r m by unfold dQ;rw [if_pos (eR k0)]] at hK;exact a7A (gl cx) hr m q qc hs2 hs3 (rE hK)
  .rw [show dQ r m=dG r m by unfold dQ;rw [if_neg (dD k0),if_pos (eR k1)]] at hK;exact a3m (gl cx) hr m q qc hs2 hs3 (rE hK)
  .rw [show dQ r m=bA r m by unfold dQ;rw [if_neg (dD k0),if_neg (dD k1),if_pos (eR k2)]] at hK;exact a0y (gl cx) hr m hmr q qc mF hqc (rE hK)
  .rw [show dQ r m=aV r m by unfold dQ;rw [if_neg (dD k0),if_neg (dD k1),if_neg (dD k2)]] at hK;exact RY (gl cx) hr m q qc hs2 hs3 hi1 hi2 (rE hK)
  .exfalso;have:=dD k0;have:=dD k1;have:=dD k2;have:=dD k3;omega
end Go.Proofs.YtnlkemjhgdbfkaaGreatDoor
end

