/-
 Layings of the kit's shelf at this seat's numbers (printed by the kit's own tools).
-/
import Derived.Shelf.Strings.Builder1
import Derived.Shelf.Small.Strs
import Derived.Shelf.Small.Wraps
import Derived.Shelf.Strings.BuilderF
import Derived.Shelf.Strings.BuilderK
import Derived.Shelf.Strconv.Atoi
import Derived.Shelf.Strconv.Itoa0
import Derived.Shelf.Strconv.Itoa1
import Derived.Shelf.LaysM
import Derived.Shelf.Strconv.Itoa2
import Derived.Shelf.Strconv.Itoa3
import Derived.Shelf.Strconv.AtoiErrFast
import Derived.Shelf.Strconv.ParseIntEmpty
import Derived.Shelf.Strconv.AtoiFail
import Derived.Shelf.Strconv.Clone
import Derived.Shelf.Strconv.SyntaxError
import Derived.Shelf.LaysC
import Derived.Shelf.Strconv.ToError
import Derived.Shelf.Strconv.Lower
import Derived.Shelf.Strconv.ParseUint10
import Derived.Shelf.Strconv.ParseUint10Empty
import Derived.Shelf.Strconv.ParseUint10Any
import Derived.Shelf.Strconv.ParseInt10
import Derived.Shelf.Strconv.AtoiLong
import Derived.Shelf.Strconv.AtoiInnerAll
import Derived.Shelf.Strconv.RangeError
import Derived.Shelf.Strconv.ToErrorRange
import Derived.Shelf.Strconv.AtoiAll
import Derived.Shelf.Strconv.ErrVarAll
import Derived.Shelf.Strings.Search1
import Derived.Shelf.Strings.Prefix
import Derived.Test.YtcmgeboolmmdkaaGreatDoorRows
import Derived.Test.YtcmgeboolmmdkaaGreatDoorCm6
import Derived.Test.YtcmgeboolmmdkaaGreatDoorCm5
import Derived.Test.YtcmgeboolmmdkaaGreatDoorCm4
import Derived.WalkKit
import Derived.Handy
import Derived.Lib.SliceRun
open Go.Proofs.Tryz
set_option linter.unusedVariables false
set_option linter.unusedSimpArgs false
section
namespace Go.Proofs
open Go.Shelf
def Tryz.a6h:Go.Shelf.Ren:=⟨fun|169=>141|n=>n,fun|70=>177|9=>9|0=>0|72=>179|37=>162|127=>188|3=>3|5=>5|n=>n,fun|n=>n⟩
theorem Tryz.aMZ:Go.Proofs.Lays.n169 prog Tryz.a6h:={
 mixed:=by kernel_rfl
 f169:=func141.trans (congrArg some (by kernel_rfl))
 t0:=underlying0
 a0:=isAgg0
 z0:=sizeOf0
 v0:=zeroValue0
 t3:=underlying3
 a3:=isAgg3
 z3:=sizeOf3
 v3:=zeroValue3
 t9:=underlying9
 a9:=isAgg9
 z9:=sizeOf9
 v9:=zeroValue9
 t37:=underlying162
 a37:=isAgg162
 z37:=sizeOf162
 v37:=zeroValue162
 t70:=underlying177
 a70:=isAgg177
 z70:=sizeOf177
 v70:=zeroValue177
 t72:=underlying179
 a72:=isAgg179
 z72:=sizeOf179
 v72:=zeroValue179
 t127:=underlying188
 a127:=isAgg188
 z127:=sizeOf188
 v127:=zeroValue188 }
theorem Tryz.aEM:Builder.Extra prog Tryz.a6h:={
 sizeBuilder:=by kernel_rfl
 liesBuilder:=by kernel_rfl
 t5:=underlying5
 a5:=isAgg5
 z5:=sizeOf5
 v5:=zeroValue5
 infoByte:=by kernel_rfl
 cellsByte:=by kernel_rfl
 sizeByte:=by kernel_rfl
 neB5:=by decide }
def Tryz.aMY:Go.Shelf.Ren:=⟨fun|137=>143|217=>150|266=>156|n=>n,fun|9=>9|5=>5|3=>3|n=>n,fun|n=>n⟩
theorem Tryz.aMX:Go.Proofs.Lays.n137 prog Tryz.aMY:={
 mixed:=by kernel_rfl
 f137:=func143.trans (congrArg some (by kernel_rfl))
 f217:=func150.trans (congrArg some (by kernel_rfl))
 f266:=func156.trans (congrArg some (by kernel_rfl))
 t3:=underlying3
 a3:=isAgg3
 z3:=sizeOf3
 v3:=zeroValue3
 t5:=underlying5
 a5:=isAgg5
 z5:=sizeOf5
 v5:=zeroValue5
 t9:=underlying9
 a9:=isAgg9
 z9:=sizeOf9
 v9:=zeroValue9 }
def Tryz.aMW:Go.Shelf.Ren:=⟨fun|103=>146|210=>153|206=>162|n=>n,fun|9=>9|4=>4|24=>143|3=>3|n=>n,fun|n=>n⟩
theorem Tryz.aMV:Go.Proofs.Lays.n103 prog Tryz.aMW:={
 mixed:=by kernel_rfl
 f103:=func146.trans (congrArg some (by kernel_rfl))
 f206:=func162.trans (congrArg some (by kernel_rfl))
 f210:=func153.trans (congrArg some (by kernel_rfl))
 t3:=underlying3
 a3:=isAgg3
 z3:=sizeOf3
 v3:=zeroValue3
 t4:=underlying4
 a4:=isAgg4
 z4:=sizeOf4
 v4:=zeroValue4
 t9:=underlying9
 a9:=isAgg9
 z9:=sizeOf9
 v9:=zeroValue9
 t24:=underlying143
 a24:=isAgg143
 z24:=sizeOf143
 v24:=zeroValue143 }
def Tryz.aMe:Go.Shelf.Ren:=⟨fun|171=>137|243=>148|246=>154|283=>163|284=>164|285=>165|286=>166|129=>171|317=>170|318=>172|319=>173|320=>174|337=>177|338=>178|n=>n,fun|3=>3|9=>9|2=>2|4=>4|171=>200|0=>0|53=>201|37=>162|5=>5|173=>204|212=>212|51=>213|20=>20|213=>214|46=>139|232=>222|233=>223|n=>n,fun|17=>4|18=>5|19=>6|n=>n⟩
theorem Tryz.aMd:Go.Proofs.LaysM.n171 prog Tryz.aMe:={
 mixed:=by kernel_rfl
 f129:=func171.trans (congrArg some (by kernel_rfl))
 f171:=func137.trans (congrArg some (by kernel_rfl))
 f243:=func148.trans (congrArg some (by kernel_rfl))
 f246:=func154.trans (congrArg some (by kernel_rfl))
 f283:=func163.trans (congrArg some (by kernel_rfl))
 f284:=func164.trans (congrArg some (by kernel_rfl))
 f285:=func165.trans (congrArg some (by kernel_rfl))
 f286:=func166.trans (congrArg some (by kernel_rfl))
 f317:=func170.trans (congrArg some (by kernel_rfl))
 f318:=func172.trans (congrArg some (by kernel_rfl))
 f319:=func173.trans (congrArg some (by kernel_rfl))
 f320:=func174.trans (congrArg some (by kernel_rfl))
 f337:=func177.trans (congrArg some (by kernel_rfl))
 f338:=func178.trans (congrArg some (by kernel_rfl))
 t0:=underlying0
 a0:=isAgg0
 z0:=sizeOf0
 v0:=zeroValue0
 t2:=underlying2
 a2:=isAgg2
 z2:=sizeOf2
 v2:=zeroValue2
 t3:=underlying3
 a3:=isAgg3
 z3:=sizeOf3
 v3:=zeroValue3
 t4:=underlying4
 a4:=isAgg4
 z4:=sizeOf4
 v4:=zeroValue4
 t5:=underlying5
 a5:=isAgg5
 z5:=sizeOf5
 v5:=zeroValue5
 t9:=underlying9
 a9:=isAgg9
 z9:=sizeOf9
 v9:=zeroValue9
 t20:=underlying20
 a20:=isAgg20
 z20:=sizeOf20
 v20:=zeroValue20
 t37:=underlying162
 a37:=isAgg162
 z37:=sizeOf162
 v37:=zeroValue162
 t46:=underlying139
 a46:=isAgg139
 z46:=sizeOf139
 v46:=zeroValue139
 t51:=underlying213
 a51:=isAgg213
 z51:=sizeOf213
 v51:=zeroValue213
 t53:=underlying201
 a53:=isAgg201
 z53:=sizeOf201
 v53:=zeroValue201
 t171:=underlying200
 a171:=isAgg200
 z171:=sizeOf200
 v171:=zeroValue200
 t173:=underlying204
 a173:=isAgg204
 z173:=sizeOf204
 v173:=zeroValue204
 t212:=underlying212
 a212:=isAgg212
 z212:=sizeOf212
 v212:=zeroValue212
 t213:=underlying214
 a213:=isAgg214
 z213:=sizeOf214
 t232:=underlying222
 a232:=isAgg222
 z232:=sizeOf222
 v232:=zeroValue222
 t233:=underlying223
 a233:=isAgg223
 z233:=sizeOf223
 v233:=zeroValue223
 g17:=by kernel_rfl
 g18:=by kernel_rfl
 g19:=by kernel_rfl
 i0:=by kernel_rfl
 i2:=by kernel_rfl
 i3:=by kernel_rfl
 i4:=by kernel_rfl
 i5:=by kernel_rfl
 i9:=by kernel_rfl
 i20:=by kernel_rfl
 i37:=by kernel_rfl
 i46:=by kernel_rfl
 i51:=by kernel_rfl
 i53:=by kernel_rfl
 i171:=by kernel_rfl
 i173:=by kernel_rfl
 i212:=by kernel_rfl
 i232:=by kernel_rfl
 i233:=by kernel_rfl
 m17:=by kernel_rfl
 m18:=by kernel_rfl
 m19:=by kernel_rfl }
def Tryz.aMb:Go.Shelf.Ren:=⟨fun|171=>137|243=>148|246=>154|283=>163|284=>164|285=>165|286=>166|129=>171|317=>170|318=>172|319=>173|320=>174|337=>177|338=>178|n=>n,fun|3=>3|9=>9|2=>2|4=>4|171=>200|0=>0|53=>201|37=>162|5=>5|173=>204|212=>212|51=>213|20=>20|213=>214|46=>139|232=>222|233=>223|n=>n,fun|17=>4|18=>5|19=>6|n=>n⟩
theorem Tryz.aMa:Go.Proofs.Lays.n171 prog Tryz.aMb:={
 mixed:=by kernel_rfl
 f129:=func171.trans (congrArg some (by kernel_rfl))
 f171:=func137.trans (congrArg some (by kernel_rfl))
 f243:=func148.trans (congrArg some (by kernel_rfl))
 f246:=func154.trans (congrArg some (by kernel_rfl))
 f283:=func163.trans (congrArg some (by kernel_rfl))
 f284:=func164.trans (congrArg some (by kernel_rfl))
 f285:=func165.trans (congrArg some (by kernel_rfl))
 f286:=func166.trans (congrArg some (by kernel_rfl))
 f317:=func170.trans (congrArg some (by kernel_rfl))
 f318:=func172.trans (congrArg some (by kernel_rfl))
 f319:=func173.trans (congrArg some (by kernel_rfl))
 f320:=func174.trans (congrArg some (by kernel_rfl))
 f337:=func177.trans (congrArg some (by kernel_rfl))
 f338:=func178.trans (congrArg some (by kernel_rfl))
 t0:=underlying0
 a0:=isAgg0
 z0:=sizeOf0
 v0:=zeroValue0
 t2:=underlying2
 a2:=isAgg2
 z2:=sizeOf2
 v2:=zeroValue2
 t3:=underlying3
 a3:=isAgg3
 z3:=sizeOf3
 v3:=zeroValue3
 t4:=underlying4
 a4:=isAgg4
 z4:=sizeOf4
 v4:=zeroValue4
 t5:=underlying5
 a5:=isAgg5
 z5:=sizeOf5
 v5:=zeroValue5
 t9:=underlying9
 a9:=isAgg9
 z9:=sizeOf9
 v9:=zeroValue9
 t20:=underlying20
 a20:=isAgg20
 z20:=sizeOf20
 v20:=zeroValue20
 t37:=underlying162
 a37:=isAgg162
 z37:=sizeOf162
 v37:=zeroValue162
 t46:=underlying139
 a46:=isAgg139
 z46:=sizeOf139
 v46:=zeroValue139
 t51:=underlying213
 a51:=isAgg213
 z51:=sizeOf213
 v51:=zeroValue213
 t53:=underlying201
 a53:=isAgg201
 z53:=sizeOf201
 v53:=zeroValue201
 t171:=underlying200
 a171:=isAgg200
 z171:=sizeOf200
 v171:=zeroValue200
 t173:=underlying204
 a173:=isAgg204
 z173:=sizeOf204
 v173:=zeroValue204
 t212:=underlying212
 a212:=isAgg212
 z212:=sizeOf212
 v212:=zeroValue212
 t213:=underlying214
 a213:=isAgg214
 z213:=sizeOf214
 t232:=underlying222
 a232:=isAgg222
 z232:=sizeOf222
 v232:=zeroValue222
 t233:=underlying223
 a233:=isAgg223
 z233:=sizeOf223
 v233:=zeroValue223
 g17:=by kernel_rfl
 g18:=by kernel_rfl
 g19:=by kernel_rfl }
def Tryz.aMc:Go.Shelf.Ren:=⟨fun|172=>144|244=>151|245=>152|247=>157|279=>158|280=>159|281=>160|282=>161|287=>167|316=>168|171=>137|205=>169|321=>175|322=>176|243=>148|246=>154|283=>163|284=>164|285=>165|286=>166|129=>171|317=>170|318=>172|319=>173|320=>174|337=>177|338=>178|n=>n,fun|9=>9|3=>3|75=>181|76=>182|4=>4|5=>5|167=>193|37=>162|0=>0|85=>194|2=>2|168=>196|53=>201|175=>206|46=>139|210=>209|127=>188|145=>220|143=>218|21=>21|171=>200|173=>204|212=>212|51=>213|20=>20|213=>214|232=>222|233=>223|80=>152|n=>n,fun|15=>2|16=>3|17=>4|18=>5|19=>6|n=>n⟩
theorem Tryz.Wk:Go.Proofs.LaysC.n172 prog Tryz.aMc:={
 mixed:=by kernel_rfl
 f129:=func171.trans (congrArg some (by kernel_rfl))
 f171:=func137.trans (congrArg some (by kernel_rfl))
 f172:=func144.trans (congrArg some (by kernel_rfl))
 f205:=func169.trans (congrArg some (by kernel_rfl))
 f243:=func148.trans (congrArg some (by kernel_rfl))
 f244:=func151.trans (congrArg some (by kernel_rfl))
 f245:=func152.trans (congrArg some (by kernel_rfl))
 f246:=func154.trans (congrArg some (by kernel_rfl))
 f247:=func157.trans (congrArg some (by kernel_rfl))
 f279:=func158.trans (congrArg some (by kernel_rfl))
 f280:=func159.trans (congrArg some (by kernel_rfl))
 f281:=func160.trans (congrArg some (by kernel_rfl))
 f282:=func161.trans (congrArg some (by kernel_rfl))
 f283:=func163.trans (congrArg some (by kernel_rfl))
 f284:=func164.trans (congrArg some (by kernel_rfl))
 f285:=func165.trans (congrArg some (by kernel_rfl))
 f286:=func166.trans (congrArg some (by kernel_rfl))
 f287:=func167.trans (congrArg some (by kernel_rfl))
 f316:=func168.trans (congrArg some (by kernel_rfl))
 f317:=func170.trans (congrArg some (by kernel_rfl))
 f318:=func172.trans (congrArg some (by kernel_rfl))
 f319:=func173.trans (congrArg some (by kernel_rfl))
 f320:=func174.trans (congrArg some (by kernel_rfl))
 f321:=func175.trans (congrArg some (by kernel_rfl))
 f322:=func176.trans (congrArg some (by kernel_rfl))
 f337:=func177.trans (congrArg some (by kernel_rfl))
 f338:=func178.trans (congrArg some (by kernel_rfl))
 t0:=underlying0
 a0:=isAgg0
 z0:=sizeOf0
 v0:=zeroValue0
 t2:=underlying2
 a2:=isAgg2
 z2:=sizeOf2
 v2:=zeroValue2
 t3:=underlying3
 a3:=isAgg3
 z3:=sizeOf3
 v3:=zeroValue3
 t4:=underlying4
 a4:=isAgg4
 z4:=sizeOf4
 v4:=zeroValue4
 t5:=underlying5
 a5:=isAgg5
 z5:=sizeOf5
 v5:=zeroValue5
 t9:=underlying9
 a9:=isAgg9
 z9:=sizeOf9
 v9:=zeroValue9
 t20:=underlying20
 a20:=isAgg20
 z20:=sizeOf20
 v20:=zeroValue20
 t21:=underlying21
 a21:=isAgg21
 z21:=sizeOf21
 v21:=zeroValue21
 t37:=underlying162
 a37:=isAgg162
 z37:=sizeOf162
 v37:=zeroValue162
 t46:=underlying139
 a46:=isAgg139
 z46:=sizeOf139
 v46:=zeroValue139
 t51:=underlying213
 a51:=isAgg213
 z51:=sizeOf213
 v51:=zeroValue213
 t53:=underlying201
 a53:=isAgg201
 z53:=sizeOf201
 v53:=zeroValue201
 t75:=underlying181
 a75:=isAgg181
 z75:=sizeOf181
 v75:=zeroValue181
 t76:=underlying182
 a76:=isAgg182
 z76:=sizeOf182
 v76:=zeroValue182
 t85:=underlying194
 a85:=isAgg194
 z85:=sizeOf194
 v85:=zeroValue194
 t127:=underlying188
 a127:=isAgg188
 z127:=sizeOf188
 v127:=zeroValue188
 t143:=underlying218
 a143:=isAgg218
 z143:=sizeOf218
 v143:=zeroValue218
 t145:=underlying220
 a145:=isAgg220
 z145:=sizeOf220
 v145:=zeroValue220
 t167:=underlying193
 a167:=isAgg193
 z167:=sizeOf193
 v167:=zeroValue193
 t168:=underlying196
 a168:=isAgg196
 z168:=sizeOf196
 v168:=zeroValue196
 t171:=underlying200
 a171:=isAgg200
 z171:=sizeOf200
 v171:=zeroValue200
 t173:=underlying204
 a173:=isAgg204
 z173:=sizeOf204
 v173:=zeroValue204
 t175:=underlying206
 a175:=isAgg206
 z175:=sizeOf206
 v175:=zeroValue206
 t210:=underlying209
 a210:=isAgg209
 z210:=sizeOf209
 v210:=zeroValue209
 t212:=underlying212
 a212:=isAgg212
 z212:=sizeOf212
 v212:=zeroValue212
 t213:=underlying214
 a213:=isAgg214
 z213:=sizeOf214
 t232:=underlying222
 a232:=isAgg222
 z232:=sizeOf222
 v232:=zeroValue222
 t233:=underlying223
 a233:=isAgg223
 z233:=sizeOf223
 v233:=zeroValue223
 g15:=by kernel_rfl
 g16:=by kernel_rfl
 g17:=by kernel_rfl
 g18:=by kernel_rfl
 g19:=by kernel_rfl
 t80:=underlying152
 a80:=isAgg152
 z80:=sizeOf152
 v80:=zeroValue152
 i0:=by kernel_rfl
 i2:=by kernel_rfl
 i3:=by kernel_rfl
 i4:=by kernel_rfl
 i5:=by kernel_rfl
 i9:=by kernel_rfl
 i20:=by kernel_rfl
 i21:=by kernel_rfl
 i37:=by kernel_rfl
 i46:=by kernel_rfl
 i51:=by kernel_rfl
 i53:=by kernel_rfl
 i75:=by kernel_rfl
 i76:=by kernel_rfl
 i80:=by kernel_rfl
 i85:=by kernel_rfl
 i127:=by kernel_rfl
 i143:=by kernel_rfl
 i145:=by kernel_rfl
 i167:=by kernel_rfl
 i168:=by kernel_rfl
 i171:=by kernel_rfl
 i173:=by kernel_rfl
 i175:=by kernel_rfl
 i210:=by kernel_rfl
 i212:=by kernel_rfl
 i232:=by kernel_rfl
 i233:=by kernel_rfl
 m15:=by kernel_rfl
 m16:=by kernel_rfl
 m17:=by kernel_rfl
 m18:=by kernel_rfl
 m19:=by kernel_rfl
 c0:=by kernel_rfl
 c2:=by kernel_rfl
 c3:=by kernel_rfl
 c4:=by kernel_rfl
 c5:=by kernel_rfl
 c9:=by kernel_rfl
 c20:=by kernel_rfl
 c21:=by kernel_rfl
 c37:=by kernel_rfl
 c46:=by kernel_rfl
 c51:=by kernel_rfl
 c53:=by kernel_rfl
 c75:=by kernel_rfl
 c76:=by kernel_rfl
 c80:=by kernel_rfl
 c85:=by kernel_rfl
 c127:=by kernel_rfl
 c143:=by kernel_rfl
 c145:=by kernel_rfl
 c167:=by kernel_rfl
 c168:=by kernel_rfl
 c171:=by kernel_rfl
 c173:=by kernel_rfl
 c175:=by kernel_rfl
 c210:=by kernel_rfl
 c212:=by kernel_rfl
 c213:=by kernel_rfl
 c232:=by kernel_rfl
 c233:=by kernel_rfl }
end Go.Proofs
end

section
namespace Go.Proofs.YtcmgeboolmmdkaaGreatDoor
open Go.Vc
abbrev OR(b:Nat)(l:List UInt8)(R:List Own):Prop:=zV 179 5 b l R
theorem a2n:∃ j,prog.info? 179=some j/\j.size=2:=by
 have h:(prog.info? 179).map (·.size)=some 2:=by kernel_rfl
 exact Option.map_eq_some_iff.1 h
set_option maxHeartbeats 1000000 in
set_option maxRecDepth 100000 in
theorem aHS(b w)(h0:w.cell? ⟨b,0,none⟩=some (ε b 0)):
  Calls prog 149 #[ε b 0] w λe w'=>e=.returned (.tuple #[])/\w'=w:=by
 obtain ⟨j,hj,_⟩:=a2n
 go_enter func149,Tryz.ntmps149
 go_wp2
 rw [Lib.run_neq_ptr_same w _ underlying177 hj]
 go_wp2
 go_end0
 exact ⟨rfl,rfl⟩
set_option maxHeartbeats 1000000 in
set_option maxRecDepth 100000 in
theorem aHQ(b w)(h0:w.cell? ⟨b,0,none⟩=some (.pointer none))(hsh:w.shape? b=some (179,2))(hfz:w.frozen? ⟨b,0,none⟩=false):
  Calls prog 149 #[ε b 0] w λe w'=>e=.returned (.tuple #[])/\w'=w.setCell ⟨b,0,none⟩ (ε b 0):=by
 obtain ⟨j,hj,aKc⟩:=a2n
 go_enter func149,Tryz.ntmps149
 go_wp2
 rw [Lib.run_to_unsafe w ⟨b,0,none⟩ underlying177 underlying191 hj (by rw [aKc];decide) hsh (Nat.zero_lt_succ 1)];simp only [Result.andThen];rw [Oper.upon_value]
 go_wp2
 rw [run_callFunc_extern func155 (by kernel_rfl) (by kernel_rfl) (by kernel_rfl) (e:=Extern.AbiNoEscape.same) (by kernel_rfl)];rw [Lib.run_noEscape];simp only [Result.andThen];rw [Oper.upon_value]
 go_wp2
 rw [Lib.run_from_unsafe w ⟨b,0,none⟩ underlying191 underlying177 hj hsh (by kernel_rfl)];simp only [Result.andThen];rw [Oper.upon_value]
 go_wp2
 go_end0
 exact ⟨rfl,rfl⟩
theorem aHR{W w S}{Φ:θ}[O Φ]{b pa v}(hp:pa=.pointer none\/pa=.pointer (some ⟨b,0,none⟩))(c:Ctx W w (.blk b [pa,v] 179 :: S) Φ){K}(hk:∀ w',Ctx W w' (.blk b [ε b 0,v] 179 :: S) Φ->K (.returned (.tuple #[])) w'):Γ F.aAe #[ε b 0] w K:=by
 have hb:w.heap[b]? = some (.cells #[pa,v] 179 (0,0)):=c.blk 0 rfl;rcases hp with rfl|rfl
 .exact (aHQ b w (c.get 0 rfl rfl) (by simp [World.shape?,hb]) (by simp [World.frozen?,hb])).mono λe w' ⟨he,hw⟩=>by
   subst he;exact hk w' (c.put 0 hw rfl)
 .exact (aHS b w (c.get 0 rfl rfl)).mono λe w' ⟨he,hw⟩=>by
   subst he;subst hw;exact hk w' c
theorem aH2:∃ i,prog.info? 5=some i/\i.zero=some (.int .u8 0)/\i.size=1/\i.bytes=1:=by
 have h:(prog.info? 5).map (λi=>(i.zero,i.size,i.bytes))=some (some (.int .u8 0),1,1):=by kernel_rfl
 obtain ⟨i,hi,he⟩:=Option.map_eq_some_iff.1 h;simp only [Prod.mk.injEq] at he;exact ⟨i,hi,he⟩
theorem aQV(s):Lib.strCells s=Lib.byteCells s.data.toList:=rfl
theorem aGJ{W w S R}{Φ:θ}[O Φ]{b l}(s)(h:OR b l R)(c:Ctx W w (R++S) Φ)(hlen:l.length+s.size<=100000000000){K}(hk:∀ R' w',OR b (l++s.data.toList) R'->Ctx W w' (R'++S) Φ->K (.returned (.tuple #[.int .i64 s.size,.nilIface])) w'):Γ F.ZD #[ε b 0,.string s] w K:=by
 obtain ⟨pa,p,cap,hpa,rfl⟩:=h;obtain ⟨i,hi,hz,hsz,hby⟩:=aH2;refine ak (aEL b 0 s (J:=K∘.returned) c ?_);refine λw G c=>aHR hpa c λw c=>⟨rfl,[.blk b [ε b 0,.slice p l.length cap] 179,.buf p l.length cap (Lib.byteCells l) 5 1]++S,Φ,δ,c,λw G c=>⟨p,l.length,cap,c.get 0 rfl rfl,λw G c=>?_⟩⟩;obtain ⟨p',cap',w',hrun,c'⟩:=Ctx.aGT (P:=prog) (t:=162) (u:=9) (ty:=162) (kb:=#[false,false]) (c.swap) underlying162 underlying9 hi hz hsz hby s (by omega) (by unfold maxLen;omega)
 refine ⟨p',_,cap',w',hrun,[.blk b [ε b 0,.slice p l.length cap] 179,.buf p' (l.length+s.size) cap' (Lib.byteCells l++Lib.strCells s) 5 1]++S,Φ,δ,c'.swap,λw G c=>⟨c.can 0 rfl (by simp),λw' hw'=>?_⟩⟩;refine ⟨[.blk b [ε b 0,.slice p' (l.length+s.size) cap'] 179,.buf p' (l.length+s.size) cap' (Lib.byteCells l++Lib.strCells s) 5 1]++S,Φ,δ,c.put 0 hw' rfl,λw G c=>hk [.blk b [ε b 0,.slice p' (l.length+s.size) cap'] 179,.buf p' (l.length+s.size) cap' (Lib.byteCells l++Lib.strCells s) 5 1] w ⟨_,p',cap',.inr rfl,?_⟩ c.left⟩
 have hl:(l++s.data.toList).length=l.length+s.size:=by rw [List.length_append,Array.length_toList];rfl
 rw [hl,aQV,Lib.byteCells_append]
theorem aGH{W w S R}{Φ:θ}[O Φ]{b l}(h:OR b l R)(c:Ctx W w (R++S) Φ){K}(hk:∀ w',Ctx W w' S Φ->K (.returned (.string ⟨l.toArray⟩)) w'):Γ F.aAd #[ε b 0] w K :=
 zV.string Tryz.aMZ Tryz.aEM h c hk
def aFd(σ τ:Nat)(w:World)(J:Value->World->Prop):Prop :=
 ∃ (n0:Int),w.cell? (Addr.mk σ (τ+4) none)=some (.int .i64 n0)/\J (.int .i64 n0) w
theorem aFe(σ τ:Nat)(w:World)(J:Value->World->Prop)(h:aFd σ τ w J):Γ F.Re #[ε σ τ] w λe w'=>∃ v,e=.returned v/\J v w':=by
 refine calls_of_wp (fn:=Tryz.f41) (by kernel_rfl) rfl ?_;obtain ⟨x,hx,h⟩:=h
 go_wp2
 all_goals go_returns
 exact ⟨.int .i64 x,by kernel_rfl,h⟩
def a1S(n:Int)(a:Int)(b:Int)(w:World)(J:Value->World->Prop):Prop :=
 J (.bool (decide (a<=n)&&decide (n<=b))) w
theorem aFg(n:Int)(a:Int)(b:Int)(w:World)(J:Value->World->Prop)(h:a1S n a b w J):Γ F.xg #[.int .i64 n,.int .i64 a,.int .i64 b] w λe w'=>∃ v,e=.returned v/\J v w':=by
 refine calls_of_wp (fn:=Tryz.f88) (by kernel_rfl) rfl ?_;unfold a1S at h
 go_wp2
 all_goals go_returns
 .rename_i q;rw [decide_eq_true q] at h;exact ⟨.bool (decide (n<=b)),by kernel_rfl,h⟩
 .rename_i q;rw [decide_eq_false (show ¬ a<=n by omega)] at h;exact ⟨.bool false,by kernel_rfl,h⟩
def a1R(σ τ:Nat)(n:Int)(w:World)(J:Value->World->Prop):Prop :=
 γ (decide (n=0)) (J (.int .i64 0) w) (∃ (o4:Option Addr) (k1 k2:Nat),w.cell? (Addr.mk σ (τ+3) none)=some (.slice o4 k1 k2)/\κ (n - 1)/\(0<=n - 1/\n - 1<(↑k1:Int))/\k9 none o4 λb8 cQ=>∃ (n5:Int),w.cell? (Addr.mk b8 (cQ+(n - 1).toNat*2) none)=some (.int .i64 n5)/\J (.int .i64 n5) w)
set_option maxHeartbeats 1000000 in
theorem aFf(σ τ:Nat)(n:Int)(w:World)(J:Value->World->Prop)(h:a1R σ τ n w J):Γ F.z7 #[ε σ τ,.int .i64 n] w λe w'=>∃ v,e=.returned v/\J v w':=by
 refine calls_of_wp (fn:=Tryz.f96) (by kernel_rfl) rfl ?_;unfold a1R at h;by_cases h0:n=0
 .rw [decide_eq_true h0] at h
  go_wp2
  go_returns
  exact ⟨.int .i64 0,by kernel_rfl,h⟩
 rw [decide_eq_false h0] at h;obtain ⟨o4,k1,k2,c1,i1,⟨i2,i3⟩,hp⟩:=h;obtain ⟨b,o,e,x,hx,h⟩:=Xy hp;have e':o4=some ⟨b,o,none⟩:=e;clear e hp;subst e';rw [show (n - 1).toNat=n.toNat - 1 by omega] at hx;unfold κ at i1
 go_wp2
 go_returns
 exact ⟨.int .i64 x,by kernel_rfl,h⟩
def aFb(σ τ:Nat)(w:World)(J:Value->World->Prop):Prop :=
 ∃ (n0:Int),w.cell? (Addr.mk σ (τ+5) none)=some (.int .i64 n0)/\J (.int .i64 n0) w
theorem aFc(σ τ:Nat)(w:World)(J:Value->World->Prop)(h:aFb σ τ w J):Γ F.Im #[ε σ τ] w λe w'=>∃ v,e=.returned v/\J v w':=by
 refine calls_of_wp (fn:=Tryz.f108) (by kernel_rfl) rfl ?_;obtain ⟨x,hx,h⟩:=h
 go_wp2
 all_goals go_returns
 exact ⟨.int .i64 x,by kernel_rfl,h⟩
theorem cZ{W w Q T G}{Φ:θ}(c:Ctx W w (Q++T++G) Φ):Ctx W w (Q++(T++G)) Φ:=c.re (μ _ _ _)
theorem e4{W w Q T G}{Φ:θ}(c:Ctx W w (Q++(T++G)) Φ):Ctx W w (Q++T++G) Φ:=c.re (μ _ _ _).symm
theorem mid{W w Q S a}{Φ:θ}[O Φ](c:Ctx W w (a :: (Q++S)) Φ):Ctx W w (Q++a :: S) Φ:=c.perm List.perm_middle.symm
theorem front{W w Q S a}{Φ:θ}[O Φ](c:Ctx W w (Q++a :: S) Φ):Ctx W w (a :: (Q++S)) Φ:=c.perm List.perm_middle
theorem sink{W w Q T G a}{Φ:θ}[O Φ](c:Ctx W w (a :: (Q++T)++G) Φ):Ctx W w (Q++a :: T++G) Φ:=c.perm (List.Perm.append_right G List.perm_middle.symm)
theorem lift{W w Q T G a}{Φ:θ}[O Φ](c:Ctx W w (Q++a :: T++G) Φ):Ctx W w (a :: (Q++T)++G) Φ:=c.perm (List.Perm.append_right G List.perm_middle)
theorem Wh{W w Q T G}{Φ:θ}[O Φ](c:Ctx W w (Q++T++G) Φ):Ctx W w (Q++G) (λ_ _=>True):=(c.weak λ_ _ _=>trivial).sub (List.Sublist.append_right (List.sublist_append_left _ _) _)
def dZ:List aS->List Value
 | []=>[]
 | x :: l=>.int .i64 x.term :: .string x.data :: dZ l
def aS.bA(x:aS):Prop:=κ x.term/\x.data.size<=maxLen
theorem YJ:∀ l:List aS,(dZ l).length=l.length*2
 | []=>rfl
 | x :: l=>by simp only [dZ,List.length_cons,YJ l];omega
theorem Rb:∀ a b:List aS,dZ (a++b)=dZ a++dZ b
 | [],b=>rfl
 | x :: a,b=>by simp only [List.cons_append,dZ,Rb a b]
theorem a9L:∀ (l:List aS) (k:Nat),(dZ l).drop (k*2)=dZ (l.drop k)
 | l,0=>by simp
 | [],k+1=>by simp [dZ]
 | x :: l,k+1=>by
  rw [show (k+1)*2=k*2+1+1 by omega];simp only [dZ,List.drop_succ_cons];exact a9L l k
theorem YI{l i}(h:i<l.length):((dZ l).drop (i*2)).take 2=[.int .i64 l[i].term,.string l[i].data]:=by
 rw [a9L,List.drop_eq_getElem_cons h];rfl
theorem aPE{l i}(h:i<l.length):(dZ l)[i*2]? = some (.int .i64 l[i].term):=by
 have h1:=YI h;have:(((dZ l).drop (i*2)).take 2)[0]? = some (.int .i64 l[i].term):=by rw [h1];rfl
 rwa [List.getElem?_take_of_lt (by omega),List.getElem?_drop,Nat.add_zero] at this
theorem a9U{M w}{x:aS}(h:x.bA):aB.rep M w [.int .i64 x.term,.string x.data] x:=⟨[_],_,rfl,⟨rfl,h.1⟩,rfl,h.2⟩
theorem NI{M w cs}{x:aS}(h:aB.rep M w cs x):cs=[.int .i64 x.term,.string x.data]/\x.bA:=by
 obtain ⟨_,_,rfl,⟨rfl,h1⟩,rfl,h2⟩:=h;exact ⟨rfl,h1,h2⟩
theorem a9H(M w cs)(x:aS)(h:aB.rep M w cs x):(cs.all λu=>ga u)=true:=by
 rw [(NI h).1];rfl
theorem Ik{M w l}(h:∀ x∈l,x.bA):dA M w (dZ l) l:=by
 refine ⟨YJ l,λj hj=>?_⟩;rw [show (aB.ty aS).size=2 from rfl,YI hj];exact a9U (h _ (List.getElem_mem hj))
theorem a48{M w cs l}(h:dA M w cs l):cs=dZ l/\∀ x∈l,x.bA:=by
 refine ⟨?_,λx hx=>?_⟩
 .apply List.ext_getElem?;intro i;by_cases hi:i<cs.length
  .have hl:=h.1;rw [show (aB.ty aS).size=2 from rfl] at hl;have hj:i / 2<l.length:=by omega
   have h1:=(NI (h.2 (i / 2) hj)).1;rw [show (aB.ty aS).size=2 from rfl,<-YI hj] at h1;have h2:((cs.drop (i / 2*2)).take 2)[i % 2]? = (((dZ l).drop (i / 2*2)).take 2)[i % 2]? := by rw [h1]
   rw [List.getElem?_take_of_lt (by omega),List.getElem?_take_of_lt (by omega),List.getElem?_drop,List.getElem?_drop] at h2
   rwa [show i / 2*2+i % 2=i by omega] at h2
  .have hl:=h.1;rw [show (aB.ty aS).size=2 from rfl] at hl;rw [List.getElem?_eq_none (by omega),List.getElem?_eq_none (by rw [YJ];omega)]
 .obtain ⟨j,hj,rfl⟩:=List.getElem_of_mem hx;exact (NI (h.2 j hj)).2
abbrev aG.cells(r:aG)(p:Option Addr)(c:Nat):List Value:=[.int .i64 r.id,.int .i64 r.term,.int .i64 r.ρ,.slice p r.log.length c,.int .i64 r.role,.int .i64 r.υ,.bool (r.bh 0),.bool (r.bh 1),.bool (r.bh 2),.int .i64 (r.next 0),.int .i64 (r.next 1),.int .i64 (r.next 2),.int .i64 (r.Ω 0),.int .i64 (r.Ω 1),.int .i64 (r.Ω 2)]
abbrev Θ(b:Nat)(r:aG)(p:Option Addr)(c:Nat):List Own:=[.blk b (r.cells p c) 112,.buf p r.log.length c (dZ r.log) 76 2]
structure wN(w:World)(b:Nat)(r:aG)(p:Option Addr)(c:Nat):Prop where
 row:bS w b 0 (r.cells p c)
 log:∀ j v,(dZ r.log)[j]? = some v->∃ g,p=some ⟨g,0,none⟩/\w.cell? ⟨g,j,none⟩=some v
theorem Ez{W w S}{Φ:θ}{b r p c}(h:Ctx W w (Θ b r p c++S) Φ):wN w b r p c :=
 ⟨h.oW 0 rfl,λj v hj=>by
  obtain ⟨g,hg,_,h2⟩:=h.uR 1 rfl (by have:=(List.getElem?_eq_some_iff.1 hj).1;omega);exact ⟨g,hg,(h2 _ _ hj).1⟩⟩
theorem wN.drew{w b r p c}(h:wN w b r p c)(n):wN (w.drewN n) b r p c :=
 ⟨((bZ.refl [] w).drewN n).row h.row (by simp),λj v hj=>by
  obtain ⟨g,hg,h2⟩:=h.log j v hj;exact ⟨g,hg,((bZ.refl [] w).drewN n).cell h2 (by simp)⟩⟩
theorem wN.at{w b r p c}(h:wN w b r p c)(k){v}(hv:(r.cells p c)[k]? = some v):w.cell? ⟨b,k,none⟩=some v:=by
 have hlt:=(List.getElem?_eq_some_iff.1 hv).1;have:=h.row k hlt;rw [Nat.zero_add] at this;rw [this,<-hv,List.getElem?_eq_getElem hlt]
theorem zm(n a b):Quiet prog F.xg #[.int .i64 n,.int .i64 a,.int .i64 b] (.bool (decide (a<=n)&&decide (n<=b))) :=
 quiet_of (λw J h=>aFg n a b w J h) λw=>⟨rfl,rfl⟩
theorem BE{l k}(h:k<l.length):bB l (k+1)=l[k].term:=by
 simp only [bB,List.getElem?_eq_getElem h]
theorem aAs{w b r p c}(h:wN w b r p c){n:Int}{k:Nat}(hn:n=k)(hk:k<=r.log.length)(h4:r.log.length<=4000):
  Γ F.z7 #[ε b 0,.int .i64 n] w λe w'=>e=.returned (.int .i64 (bB r.log k))/\w'=w:=by
 subst hn;refine (aFf b 0 k w (λu w'=>u=.int .i64 (bB r.log k)/\w'=w) ?_).mono λe w' ⟨v,h1,h2,h3⟩=>⟨by rw [h1,h2],h3⟩;refine γ.intro (λh0=>?_) (λh0=>?_)
 .have h0:k=0:=by have:=aN h0;omega
  subst h0;exact ⟨rfl,rfl⟩
 .obtain ⟨j,rfl⟩:∃ j,k=j+1:=⟨k - 1,by have:=Λ h0;omega⟩;have hj:j<r.log.length:=by omega
  obtain ⟨g,hg,hc⟩:=h.log _ _ (aPE hj);refine ⟨p,r.log.length,c,by rw [Nat.zero_add];exact h.at 3 rfl,by unfold κ;omega,by omega,eu g 0 hg ⟨r.log[j].term,?_,?_,rfl⟩⟩
  .rw [show (((j+1:Nat):Int) - 1).toNat=j by omega,Nat.zero_add];exact hc
  .rw [BE hj]
theorem ZJ{w b r p c}(h:wN w b r p c){n:Int}{k:Nat}(hn:n=k)(hk:k<=r.log.length)(h4:r.log.length<=4000){w0}(e:∃ m,w0=w.drewN m):
  Γ F.z7 #[ε b 0,.int .i64 n] w0 λe w'=>e=.returned (.int .i64 (bB r.log k))/\∃ m,w'=w.drewN m:=by
 obtain ⟨m,rfl⟩:=e;exact (aAs (h.drew m) hn hk h4).mono λe w' ⟨h1,h2⟩=>⟨h1,m,h2⟩
theorem ZL{W w S}{Φ:θ}[O Φ]{b r p c}(y:Ctx W w (Θ b r p c++S) Φ){n:Int}{k:Nat}(hn:n=k)(hk:k<=r.log.length)(h4:r.log.length<=4000){K}(hK:∀ w',Ctx W w' (Θ b r p c++S) Φ->K (.returned (.int .i64 (bB r.log k))) w'):Γ F.z7 #[ε b 0,.int .i64 n] w K :=
 (aAs (Ez y) hn hk h4).mono λe w' ⟨h1,h2⟩=>by subst h2;rw [h1];exact hK _ y
abbrev fE(x:Int):Value:=.int .i64 x
def A4(q:Int->Bool):Nat->List Int->Int
 | _,[] => -1
 | i,x :: r=>if q x=true then i else A4 q (i+1) r
theorem aJW(q)(l:List Int)(i)(hi:i<l.length):A4 q i (l.drop i)=if q l[i]=true then (i:Int) else A4 q (i+1) (l.drop (i+1)):=by
 rw [List.drop_eq_getElem_cons hi];rfl
theorem ints_at{l:List Int}{i}(h:i<l.length):(l.map fE)[i]? = some (.int .i64 l[i]):=by rw [List.getElem?_map,List.getElem?_eq_getElem h];rfl
theorem aF1{W w S}{Φ:θ}[O Φ]{k l t}(c:Ctx W w (.blk k (l.map fE) t :: S) Φ)(n cap)(hn:n=l.length)(f cp q)(hlen:l.length<=1000000)(hf:nx prog f=true)(hq:∀ x,fL Φ prog f (Array.mk (.int .i64 x :: cp.toList)) (.bool (q x))){K}(hk:∀ w',Ctx W w' (.blk k (l.map fE) t :: S) Φ->K (.returned (.int .i64 (A4 q 0 l))) w'):
  Γ F.Z3 #[.slice (some ⟨k,0,none⟩) n cap,.func (.func f) #[] cp] w K:=by
 subst hn;refine ak (aEK (some ⟨k,0,none⟩) l.length cap f cp (J:=K∘.returned) c ?_);refine fD (λn R' η m=>∃ i:Nat,n=i/\i<=l.length/\R'=.blk k (l.map fE) t :: S/\η=Φ/\m=l.length - i/\A4 q 0 l=A4 q i (l.drop i)) ⟨⟨_,Φ,_,δ,λw F c=>c,0,rfl,Nat.zero_le _,rfl,rfl,rfl,rfl⟩,?_⟩;rintro n aW ψ m _ ⟨i,rfl,hi,rfl,rfl,rfl,Qb⟩;refine γ.intro (λhlt=>?_) (λhge=>λw G y=>?_)
 .have hlt:i<l.length:=by simpa using hlt
  rw [aJW q l i hlt] at Qb;refine ⟨by omega,eu k 0 rfl λw G y=>⟨l[i],by rw [Int.toNat_natCast,Nat.zero_add];exact y.get 0 rfl (ints_at hlt),λw G y=>⟨hf,(hq l[i]).use y λw y=>⟨_,rfl,_,ψ,δ,y,γ.intro (λh=>λw G y=>?_) (λh=>⟨by unfold κ;omega,_,ψ,l.length - (i+1),δ,λw F c=>c,⟨i+1,rfl,hlt,rfl,rfl,rfl,?_⟩,by omega⟩)⟩⟩⟩⟩
  .have:=hk w y.left;rw [Qb,if_pos h] at this;exact this
  .rw [Qb,if_neg (by rw [h];simp)]
 .have hge:i=l.length:=Nat.le_antisymm hi (by simpa using hge);have:=hk w y.left;rw [Qb,hge,List.drop_length] at this;exact this
theorem aNx{W b k0 r p c}{Φ:θ}[O Φ](x):
  fL (lZ W (.blk k0 [ε b 0] 52 :: Θ b r p c) Φ) prog F.YT (Array.mk (.int .i64 x :: (#[ε k0 0]:Array Value).toList)) (.bool (decide (x=r.id))):=by
 refine rW (aE5 x k0 0) λW' R=>?_;have h1:∀ {M w},lZ W (.blk k0 [ε b 0] 52 :: Θ b r p c) Φ M w->w.cell? ⟨k0,0,none⟩=some (ε b 0):=fun {M w} h=>by
  have:=(h.parked (o:=.blk k0 [ε b 0] 52) (by simp)).1;exact (show dc w k0 [ε b 0] 52 from this).EV rfl
 have h2:∀ {M w},lZ W (.blk k0 [ε b 0] 52 :: Θ b r p c) Φ M w->w.cell? ⟨b,0,none⟩=some (.int .i64 r.id):=fun {M w} h=>by
  have:=(h.parked (o:=.blk b (r.cells p c) 112) (by simp)).1;exact (show dc w b (r.cells p c) 112 from this).EV rfl
 exact λw G y=>⟨some ⟨b,0,none⟩,h1 y.cy,eu b 0 rfl λw G y=>⟨r.id,h2 y.cy,λw G y=>⟨rfl,y.left⟩⟩⟩
theorem NO{P ats ty cs args v w w'}(h:(Builtin.clear_ ats ty args).run P w=.ok v w'):Sem.run P (builtin Builtin.clear ats ty cs args) w=.ok (.value v) w':=by
 unfold builtin;simp only [Sem.run_bind,h,Result.andThen,Sem.run_pure]
theorem aPs(vs):∀ (a b:List Value) (n:Nat),n=a.length->vs.length=b.length->gd (a++b) n vs=a++vs:=by
 intro a b n hn hl;subst hn;apply List.ext_getElem?;intro i;by_cases hi:i<a.length
 .rw [B6 _ _ _ _ (.inl hi),List.getElem?_append_left hi,List.getElem?_append_left hi]
 .by_cases hi2:i<a.length+vs.length
  .obtain ⟨j,rfl⟩:∃ j,i=a.length+j:=⟨i - a.length,by omega⟩;rw [Nb _ _ _ _ (by omega) (by rw [List.length_append];omega),List.getElem?_append_right (by omega),show a.length+j - a.length=j by omega]
  .rw [List.getElem?_eq_none (by rw [Nc,List.length_append];omega),List.getElem?_eq_none (by rw [List.length_append];omega)]
theorem aS9:∀ w:World,(zeroValue 3).run prog w=.ok (.int .i64 0) w:=λw=>by kernel_rfl
theorem aEj{W w S}{Φ:θ}[O Φ]{k}{l:List Int}(c:Ctx W w (.blk k (l.map fE) 3 :: S) Φ)(f cp q n)(hn:n=l.length)(h0:0<l.length)(hlen:l.length<=1000000)(hf:nx prog f=true)(hq:∀ x,fL Φ prog f (Array.mk (.int .i64 x :: cp.toList)) (.bool (q x)))(hsome:l.any q=true){K}(hk:∀ w' rest,Ctx W w' (.blk k ((l.filter λx => !q x).map fE++rest) 3 :: S) Φ->K (.returned (.slice (some ⟨k,0,none⟩) (l.filter λx => !q x).length l.length)) w'):
  Γ F.Z0 #[.slice (some ⟨k,0,none⟩) n n,.func (.func f) #[] cp] w K:=by
 subst hn;have hfind:∀ (l:List Int) (i:Nat),l.any q=true->∃ j:Nat,A4 q i l=((i+j:Nat):Int)/\∃ h:j<l.length,q l[j]=true/\∀ x∈l.take j,q x=false:=by
  intro l
  induction l with
  | nil=>intro i h;simp at h
  | cons x r ih =>
   intro i h;cases hx:q x with
   | true=>exact ⟨0,by unfold A4;rw [if_pos hx];rfl,by simp,by simpa using hx,by simp⟩
   | false =>
    rw [List.any_cons,hx,Bool.false_or] at h;obtain ⟨j,h1,h2,h3,h4⟩:=ih (i+1) h;refine ⟨j+1,?_,by simp;omega,by simpa using h3,λU hy=>?_⟩
    .unfold A4;rw [if_neg (by rw [hx];simp),h1];omega
    .rw [List.take_succ_cons] at hy;rcases List.mem_cons.1 hy with rfl|hy
     .exact hx
     .exact h4 U hy
 obtain ⟨I1,hj0,Ho,hj2,ri⟩:=hfind l 0 hsome;rw [Nat.zero_add] at hj0;refine ak (aEH (some ⟨k,0,none⟩) l.length l.length f cp (J:=K∘.returned) c ?_);refine λw G y=>aF1 (S:=S++G) y l.length l.length rfl f cp q hlen hf hq λw y=>⟨_,rfl,.blk k (l.map fE) 3 :: S,Φ,δ,y,?_⟩;rw [hj0];refine γ.intro (λh=>by have:=aN h;omega) (λ_=>⟨by unfold κ;omega,?_⟩);have VT:(l.take I1).filter (λx => !q x)=l.take I1:=List.filter_eq_self.2 λx hx=>by rw [ri x hx];rfl
 have hstart:(l.take (I1+1)).filter (λx => !q x)=l.take I1:=by
  rw [List.take_succ_eq_append_getElem Ho,List.filter_append,VT];simp [hj2]
 refine fD (λa n R' η m=>∃ (i j:Nat) (cs:List Value),a=i/\n=j/\j<=l.length/\i<j/\R'=.blk k cs 3 :: S/\η=Φ/\m=l.length - j/\cs.length=l.length/\i=((l.take j).filter λx => !q x).length/\cs.take i=((l.take j).filter λx => !q x).map fE/\cs.drop j=(l.map fE).drop j)
  ⟨⟨_,Φ,_,δ,λw G y=>y,I1,I1+1,l.map fE,rfl,by omega,by omega,by omega,rfl,rfl,rfl,by simp,by rw [hstart];simp;omega,by rw [hstart,List.map_take],rfl⟩,?_⟩
 rintro _ _ aW ψ m _ ⟨i,j,cs,rfl,rfl,hjl,hij,rfl,rfl,rfl,cW,hi,hct,hcd⟩;refine γ.intro (λhlt=>?_) (λhge=>?_)
 .have hlt:j<l.length:=by simpa using hlt
  have HZ:cs[j]? = some (.int .i64 l[j]):=by
   have:(cs.drop j)[0]? = ((l.map fE).drop j)[0]? := by rw [hcd]
   rw [List.getElem?_drop,List.getElem?_drop,Nat.add_zero,ints_at hlt] at this;exact this
  have hts:(l.take (j+1)).filter (λx => !q x)=(l.take j).filter (λx => !q x)++(if q l[j]=true then [] else [l[j]]):=by
   rw [List.take_succ_eq_append_getElem hlt,List.filter_append];exact congrArg _ (by cases h:q l[j]<;>simp [h])
  refine ⟨by omega,eu k 0 rfl λw G y=>⟨l[j],by rw [Int.toNat_natCast,Nat.zero_add];exact y.get 0 rfl HZ,λw G y=>⟨hf,(hq l[j]).use y λw y=>⟨_,rfl,_,ψ,δ,y,γ.intro (λh=>⟨by omega,eu k 0 rfl λw G y=>⟨y.can 0 rfl (by rw [Int.toNat_natCast];omega),λw' hw'=>?_⟩⟩) (λh=>?_)⟩⟩⟩⟩
  .rw [Int.toNat_natCast,Nat.zero_add] at hw';have bO:=y.put 0 hw' rfl;have h:q l[j]=false:=by simpa using h
   rw [if_neg (by rw [h];simp)] at hts;refine ⟨.blk k (cs.set i (.int .i64 l[j])) 3 :: S,ψ,δ,bO,by unfold κ;omega,by unfold κ;omega,_,ψ,l.length - (j+1),δ,λw G y=>y,⟨i+1,j+1,cs.set i (.int .i64 l[j]),by omega,by omega,hlt,by omega,rfl,rfl,rfl,by simp [cW],by rw [hts,List.length_append,<-hi];rfl,?_,?_⟩,by omega⟩
   .rw [hts,List.map_append,<-hct,List.take_succ_eq_append_getElem (by simp [cW];omega),List.take_set_of_le (Nat.le_refl _),List.getElem_set_self];rfl
   .rw [List.drop_set_of_lt (by omega)];have:=congrArg (List.drop 1) hcd;rw [List.drop_drop,List.drop_drop] at this;exact this
  .have h:q l[j]=true:=by simpa using h
   rw [if_pos h,List.append_nil] at hts;refine ⟨by unfold κ;omega,_,ψ,l.length - (j+1),δ,λw G y=>y,⟨i,j+1,cs,rfl,by omega,hlt,by omega,rfl,rfl,rfl,cW,by rw [hts];exact hi,by rw [hts];exact hct,?_⟩,by omega⟩;have:=congrArg (List.drop 1) hcd;rw [List.drop_drop,List.drop_drop] at this;exact this
 .have hge:j=l.length:=Nat.le_antisymm hjl (by simpa using hge);subst hge;rw [List.take_length] at hi hct;refine ⟨by omega,λw G y=>?_⟩;have hne:¬ l.length=i:=by omega
  have hsub:eB (some ⟨k,0,none⟩) 1 (i:Int).toNat l.length=some ⟨k,i,none⟩:=by
   unfold eB;rw [Int.toNat_natCast,if_neg hne];simp [Addr.add];intro h;exact h.symm
  rw [hsub,Int.toNat_natCast];have hb:=y.blk 0 rfl;have hrun:=Lib.run_clear_slice (P:=prog) w 30 3 0 (.int .i64 0) underlying30 aS9 rfl rfl k i (l.length - i) (l.length - i) (by omega) (λt ht=>(y.can 0 rfl (o:=i) (n:=l.length - i) (by omega) t ht).1) (λt ht=>(y.can 0 rfl (o:=i) (n:=l.length - i) (by omega) t ht).2);refine ⟨_,NO hrun,.blk k (gd cs i (List.replicate (l.length - i) (.int .i64 0))) 3 :: S,ψ,δ,y.pO 0 rfl rfl,by omega,λw G y=>?_⟩
  have hcs:cs=(l.filter λx => !q x).map fE++cs.drop i:=by rw [<-hct,List.take_append_drop]
  have e1:gd cs i (List.replicate (l.length - i) (.int .i64 0))=(l.filter λx => !q x).map fE++List.replicate (l.length - i) (.int .i64 0):=by
   conv=>lhs;rw [hcs]
   exact aPs _ _ _ _ (by rw [List.length_map];exact hi) (by simp [cW])
  rw [e1] at y;have e2:eB (some ⟨k,0,none⟩) 1 0 l.length=some ⟨k,0,none⟩:=by
   unfold eB;split
   .rfl
   .simp [Addr.add]
  rw [e2,hi];exact hk w _ y.left
theorem Xa{W w S}{Φ:θ}[O Φ]{b r p c}(hid:r.id<=2)(y:Ctx W w (Θ b r p c++S) Φ){K}(hK:∀ k rest w',Ctx W w' (.blk k ((bu r.id).map (λx:Nat=>fE (x:Int))++rest) 3 :: (Θ b r p c++S)) Φ->K (.returned (.slice (some ⟨k,0,none⟩) 2 3)) w'):
  Γ F.NN #[ε b 0] w K:=by
 refine ak (aE6 b 0 (J:=K∘.returned) y ?_);intro k0 k1 w G y;have bO:Ctx W w ((.blk k0 [ε b 0] 52 :: Θ b r p c)++(.blk k1 ([0,1,2].map fE) 3 :: (S++G))) Φ:=by
  refine y.perm ?_;show (Own.blk k1 [.int .i64 0,.int .i64 1,.int .i64 2] 3 :: ((Own.blk k0 [ε b 0] 52 :: Θ b r p c)++S++G)).Perm _;rw [μ];exact List.perm_middle.symm
 have hst:O (lZ W (.blk k0 [ε b 0] 52 :: Θ b r p c) Φ):=δ;refine aEj bO.aside F.YT #[ε k0 0] (λx:Int=>decide (x=(r.id:Int))) 3 rfl (by simp) (by simp) (by kernel_rfl) (λx=>aNx x) ?_ λw rest y=>?_
 .have:r.id=0\/r.id=1\/r.id=2:=by omega
  rcases this with h|h|h<;>rw [h]<;>rfl
 .have VT:([0,1,2]:List Int).filter (λx:Int => !decide (x=(r.id:Int)))=(bu r.id).map (λx:Nat=>(x:Int)):=by
   have:r.id=0\/r.id=1\/r.id=2:=by omega
   rcases this with h|h|h<;>rw [h]<;>rfl
  rw [VT] at y ⊢;have hl:((bu r.id).map (λx:Nat=>(x:Int))).length=2:=by unfold bu;split;rfl;split<;>rfl
  rw [hl];refine ⟨some ⟨k1,0,none⟩,2,3,rfl,.blk k1 ((bu r.id).map (λx:Nat=>fE (x:Int))++rest) 3 :: (Θ b r p c++S),Φ,δ,?_,λw G y=>hK k1 rest w y.left⟩;have ep:=y.DJ;rw [List.map_map] at ep;refine Ctx.perm (ep.sub (S':=Θ b r p c++(.blk k1 ((bu r.id).map (λx:Nat=>fE (x:Int))++rest) 3 :: (S++G))) (List.sublist_cons_self _ _)) ?_;refine List.perm_middle.trans (List.Perm.cons _ ?_);rw [<-μ];exact List.Perm.refl _
abbrev aH.cells(x:aH)(p:Option Addr)(c:Nat):List Value:=[.int .i64 x.kind,.int .i64 x.src,.int .i64 x.to,.int .i64 x.term,.int .i64 x.index,.int .i64 x.prev,.int .i64 x.υ,.bool x.yes,.slice p x.ζ.length c]
abbrev aH.v(x:aH)(p:Option Addr)(c:Nat):Value:=.agg #[.int .i64 x.kind,.int .i64 x.src,.int .i64 x.to,.int .i64 x.term,.int .i64 x.index,.int .i64 x.prev,.int .i64 x.υ,.bool x.yes,.slice p x.ζ.length c]
structure aH.bA(x:aH):Prop where
 kind:κ x.kind
 src:κ x.src
 to:κ x.to
 term:κ x.term
 index:κ x.index
 prev:κ x.prev
 υ:κ x.υ
theorem a7C{M w cs}{x:aH}(h:aB.rep M w cs x):∃ p c,cs=x.cells p c/\x.ζ.length<=c/\c<=maxLen/\x.bA/\Δ M w p x.ζ:=by
 obtain ⟨_,_,rfl,⟨rfl,h1⟩,_,_,rfl,⟨rfl,h2⟩,_,_,rfl,⟨rfl,h3⟩,_,_,rfl,⟨rfl,h4⟩,_,_,rfl,⟨rfl,h5⟩,_,_,rfl,⟨rfl,h6⟩,_,_,rfl,⟨rfl,h7⟩,_,_,rfl,rfl,p,c,rfl,h8,h9,h10⟩:=h;exact ⟨p,c,rfl,h8,h9,⟨h1,h2,h3,h4,h5,h6,h7⟩,h10⟩
theorem NJ{M w}{x:aH}{p c}(h:x.bA)(h6:x.ζ.length<=c)(h7:c<=maxLen)(h8:Δ M w p x.ζ):aB.rep M w (x.cells p c) x :=
 ⟨[_],_,rfl,⟨rfl,h.kind⟩,[_],_,rfl,⟨rfl,h.src⟩,[_],_,rfl,⟨rfl,h.to⟩,[_],_,rfl,⟨rfl,h.term⟩,[_],_,rfl,⟨rfl,h.index⟩,[_],_,rfl,⟨rfl,h.prev⟩,[_],_,rfl,⟨rfl,h.υ⟩,[_],_,rfl,rfl,p,c,rfl,h6,h7,h8⟩
theorem aNC{M w}{x:aH}{p c}(h:aB.rep M w (x.cells p c) x):Δ M w p x.ζ:=by
 obtain ⟨p',c',e,_,_,_,h1⟩:=a7C h;simp only [aH.cells,List.cons.injEq,Value.slice.injEq] at e;rw [e.2.2.2.2.2.2.2.2.1.1];exact h1
theorem J3{M w b o}{l:List aS}(h:Δ M w (some ⟨b,o,none⟩) l){i}(hi:i<l.length):bS w b (o+i*2) [.int .i64 l[i].term,.string l[i].data]:=by
 obtain ⟨b',o',cs,e,_,h3,h4⟩:=h i hi;cases e;rw [<-(NI h4).1];exact h3
theorem aQ3{M w p}{l:List aS}(h:Δ M w p l):∀ x∈l,x.bA:=λx hx=>by
 obtain ⟨i,hi,rfl⟩:=List.getElem_of_mem hx;obtain ⟨_,_,_,_,_,_,h4⟩:=h i hi;exact (NI h4).2
theorem Jd{W w S}{Φ:θ}[O Φ]{q l c2}(c:Ctx W w S Φ)(bp:∀ M w,Φ M w->Δ M w q l)(hlen:l.length<100000000){K}(hk:∀ p cap w',Ctx W w' (.buf p l.length cap (dZ l) 76 2 :: S) Φ->K (.returned (.slice p l.length cap)) w'):Γ F.Ft #[.slice q l.length c2] w K:=by
 refine ak (aEC q l.length c2 (J:=K∘.returned) c ?_);refine γ.intro (λh=>λw G y=>?_) (λh=>λk w G y=>?_)
 .have hq:q=none:=by simpa using h
  have hl:l.length=0:=by
   rcases Nat.eq_zero_or_pos l.length with h0|h0
   .exact h0
   .obtain ⟨b,o,hb⟩:=(bp _ _ y.cy).there h0;rw [hq] at hb;cases hb
  have hl':l=[]:=List.eq_nil_of_length_eq_zero hl;subst hl';exact hk none 0 w (y.left.yp 76 2)
 .obtain ⟨p',cap',w',cs,hrun,p5⟩:=Ctx.PY (P:=prog) (ts:=43) (ty:=43) (kb:=#[false,false]) (bytes:=24) (c2:=c2) y (by kernel_rfl) a9H bp hlen (by omega);obtain ⟨rfl,_⟩:=a48 p5.cy.2;exact ⟨p',l.length,cap',w',hrun,.buf p' l.length cap' (dZ l) 76 2 :: S,Φ,δ,p5.fst,λw G y=>hk p' cap' w y.left⟩
theorem Ws{W w Q Φ M p n c l}(h:lZ W Q Φ M w)(hm:Own.buf p n c (dZ l) 76 2∈Q)(hok:∀ x∈l,x.bA):Δ M w p l :=
 vZ.sl (α:=aS) (D:=[]) (h.parked hm) (Ik hok)
theorem aG.bA.ζ{r:aG}(h:r.bA):∀ x∈r.log,x.bA:=λx hx=>by
 have h1:=h.log.lo x hx;have h2:=h.log.hi x hx;have h3:=h.log.data x hx;have h4:=h.gf;exact ⟨by unfold κ;omega,by unfold maxLen;omega⟩
theorem Δ.take{α}[aB α]{M w p}{l:List α}(h:Δ M w p l)(k):Δ M w p (l.take k):=λj hj=>by
 have hj':j<l.length:=by simp at hj;omega
 rw [List.getElem_take];exact h j hj'
theorem R3{W w S}{Φ:θ}[O Φ]{b r p c}(y:Ctx W w (Θ b r p c++S) Φ)(kind to){K}(hK:∀ w',Ctx W w' (Θ b r p c++S) Φ->K (.returned ((lA r kind to).v none 0)) w'):Γ F.Ip #[ε b 0,.int .i64 kind,.int .i64 to] w K:=by
 refine ak (aE4 b 0 kind to (J:=K∘.returned) y ?_);exact λ_ w G y=>⟨r.id,y.get 0 rfl rfl,λw G y=>⟨r.term,y.get 0 rfl rfl,λw G y=>hK w y.left⟩⟩
structure Fit(r:aG)(to:Nat):Prop where
 lo:1<=r.next to
 hi:r.next to<=r.log.length+1
 len:r.log.length<=4000
 to:to<3
theorem To{r:aG}{p c to}(h:to<3):(r.cells p c)[9+to]? = some (.int .i64 (r.next to)):=by
 match to,h with
 | 0,_=>rfl
 | 1,_=>rfl
 | 2,_=>rfl
theorem PX{r:aG}{p c to}(h:to<3):(r.cells p c)[12+to]? = some (.int .i64 (r.Ω to)):=by
 match to,h with
 | 0,_=>rfl
 | 1,_=>rfl
 | 2,_=>rfl
set_option maxHeartbeats 1000000 in
theorem Uf{W w S}{Φ:θ}[O Φ]{b r p c}(y:Ctx W w (Θ b r p c++S) Φ)(hok:∀ x∈r.log,x.bA){to:Int}(n:Nat)(hto:to=n)(hf:Fit r n){K}(hK:∀ q cap w',(entriesOf r n).ζ.length<=cap->cap<=maxLen->Ctx W w' (Θ b r p c++S) (λM w=>Φ M w/\Δ M w q (entriesOf r n).ζ)->K (.returned ((entriesOf r n).v q cap)) w'):
  Γ F.NM #[ε b 0,.int .i64 to] w K:=by
 subst hto;have h1:=hf.lo;have h2:=hf.hi;have h3:=hf.len;have h4:=hf.to;refine ak (aE3 b 0 n (J:=K∘.returned) y ?_);refine λ_ w G y=>R3 (cZ y) 2 n λw y=>⟨_,_,_,_,_,_,_,_,none,_,0,rfl,Θ b r p c++S,Φ,δ,e4 y,λ_=>⟨by omega,λw G y=>⟨r.next n,?_,by unfold κ;omega,?_⟩⟩⟩
 .rw [Nat.zero_add,Int.toNat_natCast];exact y.get 0 rfl (To h4)
 have aKx:((r.next n:Nat):Int) - 1=((r.next n - 1:Nat):Int):=by omega
 rw [aKx];have hmin:min ((r.log.length:Nat):Int) (((r.next n - 1:Nat):Int)+8)=((min r.log.length (r.next n - 1+8):Nat):Int):=by omega
 refine ⟨Θ b r p c++S,Φ,δ,λw G y=>y,(r.υ:Int),λw G y=>⟨_,y.get 0 rfl rfl,rfl⟩,λw G y=>ZL (cZ y) rfl (by omega) h3 λw y=>⟨_,rfl,Θ b r p c++S,Φ,δ,e4 y,λw G y=>y,λw G y=>y,λw G y=>y,
  Θ b r p c,Φ,δ,λw G y=>y.sub (by rw [μ];exact List.Sublist.append_left (List.sublist_append_right _ _) _),by unfold κ;omega,p,r.log.length,c,λw G y=>⟨p,r.log.length,c,y.get 0 rfl rfl,rfl⟩,p,r.log.length,c,λw G y=>⟨p,r.log.length,c,y.get 0 rfl rfl,rfl⟩,?_,λw G y=>?_⟩⟩
 .have hc:=(y.uS 1 rfl).2.1;omega
 rw [hmin,Int.toNat_natCast,Int.toNat_natCast];have hlen:min r.log.length (r.next n - 1+8) - (r.next n - 1)=((r.log.drop (r.next n - 1)).take 8).length:=by
  rw [List.length_take,List.length_drop];omega
 rw [hlen];have hc:=(y.uS 1 rfl).2.1;have bO:Ctx W w (S++G) (lZ W (Θ b r p c) Φ):=Ctx.aside (y.re (μ _ _ _));refine Jd bO (λM w h=>Δ.take (a2L (Ws h (n:=r.log.length) (c:=c) (by simp) hok) (r.next n - 1) hc) 8) (by rw [<-hlen];omega) λq cap w y=>?_;obtain ⟨_,HY,hcap2⟩:=y.uS 0 rfl;have ep:Ctx W w (.buf q ((r.log.drop (r.next n - 1)).take 8).length cap (dZ ((r.log.drop (r.next n - 1)).take 8)) 76 2 :: (Θ b r p c++(S++G))) Φ:=y.DJ.perm List.perm_middle
 obtain ⟨lQ,hs,_⟩:=Ctx.freeze (α:=aS) ep (Ik λx hx=>hok x (List.mem_of_mem_drop (List.mem_of_mem_take hx)));have hst:O (λM w=>Φ M w/\Δ M w q ((r.log.drop (r.next n - 1)).take 8)):=δ;refine ⟨q,_,cap,rfl,Θ b r p c++S,λM w=>Φ M w/\Δ M w q ((r.log.drop (r.next n - 1)).take 8),hst,e4 (lQ.add hs),λw G y=>?_,λw G y=>hK q cap w HY hcap2 y.left⟩;exact y.fst.sub (by rw [μ];exact List.Sublist.append_left (List.sublist_append_right _ _) _)
theorem a2T{W w S}{Φ:θ}[O Φ](y:Ctx W w S Φ)(m:aH)(p c)(hm:m.bA)(h1:m.ζ.length<=c)(h2:c<=maxLen)(bp:∀ M w,Φ M w->Δ M w p m.ζ){K}(hK:∀ q w',Ctx W w' S (λM w=>Φ M w/\Δ M w q [m])->K (.returned (.agg #[.bool false,.int .i64 0,.int .i64 0,.int .i64 0,.slice none 0 0,.slice q 1 1])) w'):
  Γ F.z8 #[m.v p c] w K:=by
 refine ak (aEA m.kind m.src m.to m.term m.index m.prev m.υ m.yes p m.ζ.length c (J:=K∘.returned) y ?_);refine λ_ _ k w G y=>?_;obtain ⟨bO,hs⟩:=y.LJ (dA.one (NJ (x:=m) hm h1 h2 (bp _ _ y.cy)));exact hK (some ⟨k,0,none⟩) w (Ctx.left (F:=G) (Φ:=λM w=>Φ M w/\Δ M w (some ⟨k,0,none⟩) [m]) (bO.add hs))
abbrev wB(o:fN)(p1:Option Addr)(c1:Nat)(p2:Option Addr)(c2:Nat):Value:=.agg #[.bool o.save,.int .i64 o.term,.int .i64 o.ρ,.int .i64 o.src,.slice p1 o.ζ.length c1,.slice p2 o.send.length c2]
def zc(Φ:θ)(q1:Option Addr)(ζ:List aS)(bP:Option Addr)(send:List aH):θ:=λM w=>Φ M w/\Δ M w q1 ζ/\Δ M w bP send
instance aTQ(Φ:θ)[O Φ](q1:Option Addr)(ζ:List aS)(bP:Option Addr)(send:List aH):O (zc Φ q1 ζ bP send) :=
 have h2:O (λM w=>Δ M w q1 ζ/\Δ M w bP send):=vv (λM w=>Δ M w q1 ζ) (λM w=>Δ M w bP send)
 vv Φ (λM w=>Δ M w q1 ζ/\Δ M w bP send)
def pX(W:World)(S:List Own)(Φ:θ)(b:Nat)(r':aG)(o:fN)(K:Value->World->Prop):Prop :=
 ∀ p' c' q1 c1 bP c2 w',o.ζ.length<=c1->c1<=maxLen->o.send.length<=c2->c2<=maxLen->Ctx W w' (Θ b r' p' c'++S) (zc Φ q1 o.ζ bP o.send)->K (wB o q1 c1 bP c2) w'
theorem pX.zero{W w S Φ b r' K p c}(h:pX W S Φ b r' er K)(y:Ctx W w (Θ b r' p c++S) Φ):K (wB er none 0 none 0) w :=
 h p c none 0 none 0 w (Nat.le_refl _) (by simp [maxLen]) (Nat.le_refl _) (by simp [maxLen]) (y.weak λM w h=>⟨h,Δ.nil,Δ.nil⟩)
theorem pX.sent{W w S Φ b r' K p c l q cap}(h:pX W S Φ b r' (gL l) K)(h1:l.length<=cap)(h2:cap<=maxLen)(y:Ctx W w (Θ b r' p c++S) (λM w=>Φ M w/\Δ M w q l)):K (wB (gL l) none 0 q cap) w :=
 h p c none 0 q cap w (Nat.le_refl _) (by simp [maxLen]) h1 h2 (y.weak λM w h=>⟨h.1,Δ.nil,h.2⟩)
theorem aAE{r:aG}{p c i}(x)(h:i<3):(r.cells p c).set (6+i) (.bool x)={ r with bh:=put r.bh i x }.cells p c:=by
 match i,h with
 | 0,_=>rfl
 | 1,_=>rfl
 | 2,_=>rfl
theorem Yt{r:aG}{p c i}(x:Nat)(h:i<3):(r.cells p c).set (9+i) (.int .i64 x)={ r with next:=put r.next i x }.cells p c:=by
 match i,h with
 | 0,_=>rfl
 | 1,_=>rfl
 | 2,_=>rfl
theorem aAD{r:aG}{p c i}(x:Nat)(h:i<3):(r.cells p c).set (12+i) (.int .i64 x)={ r with Ω:=put r.Ω i x }.cells p c:=by
 match i,h with
 | 0,_=>rfl
 | 1,_=>rfl
 | 2,_=>rfl
theorem sA{W w w' S}{Φ:θ}[O Φ]{b r p c}(y:Ctx W w (Θ b r p c++S) Φ){i v}(e:w'=w.setCell ⟨b,i,none⟩ v)(r')(hc:(r.cells p c).set i v=r'.cells p c)(hl:r'.log=r.log):
  Ctx W w' (Θ b r' p c++S) Φ:=by
 show Ctx W w' (.blk b (r'.cells p c) 112 :: .buf p r'.log.length c (dZ r'.log) 76 2 :: S) Φ;rw [<-hc,hl];exact y.put 0 e rfl
theorem Y2{W w w' S}{Φ:θ}[O Φ]{b r p c}(y:Ctx W w (Θ b r p c++S) Φ){i vs}(e:w'=w.setCells b i vs)(r')(hc:gd (r.cells p c) i vs=r'.cells p c)(hl:r'.log=r.log):
  Ctx W w' (Θ b r' p c++S) Φ:=by
 show Ctx W w' (.blk b (r'.cells p c) 112 :: .buf p r'.log.length c (dZ r'.log) 76 2 :: S) Φ;rw [<-hc,hl];exact y.pO 0 e rfl
theorem Fc(id):(bu id).length=2:=by unfold bu;split;rfl;split<;>rfl
theorem Mj{id}:∀ x∈bu id,x<3/\(id<=2->x≠id):=by
 intro x hx;unfold bu at hx;split at hx
 .simp at hx;omega
 .split at hx<;>simp at hx<;>omega
theorem aG.bA.bB{r:aG}(h:r.bA)(k):0<=bB r.log k/\Go.Proofs.YtcmgeboolmmdkaaGreatDoor.bB r.log k<=r.term:=by
 have h0:=h.jn;cases k with
 | zero=>exact ⟨Int.le_refl _,h0⟩
 | succ k =>
  by_cases hk:k<r.log.length
  .rw [BE hk];have h1:=h.log.lo _ (List.getElem_mem hk);have h2:=h.log.hi _ (List.getElem_mem hk);omega
  .simp only [Go.Proofs.YtcmgeboolmmdkaaGreatDoor.bB,List.getElem?_eq_none (Nat.not_lt.1 hk)];omega
theorem aG.bA.fit{r}(h:r.bA)(hr:r.role=2){i}(hi:i<3):Fit r i:=⟨(h.next hr i).1,(h.next hr i).2.1,h.len,hi⟩
theorem Po{r}(h:r.bA){n}(hf:Fit r n):(entriesOf r n).bA:=by
 have h1:=h.bB (r.next n - 1);have h2:=h.id;have h3:=h.jn;have h4:=h.gf;have h5:=h.υ;have h6:=h.len;have h7:=hf.hi;have h8:=hf.to;have e:∀ {x:Int},-1<=x->x<=1099511627776->κ x:=λh h'=>by unfold κ;omega
 unfold entriesOf;exact ⟨e (by simp) (by simp),e (by simp only;omega) (by simp only;omega),e (by simp only;omega) (by simp only;omega),e (by simp only;omega) (by simp only;omega),e (by simp only;omega) (by simp only;omega),e (by simp only;omega) (by simp only;omega),e (by simp only;omega) (by simp only;omega)⟩
set_option maxHeartbeats 1000000 in
theorem PE{W w S}{Φ:θ}[O Φ]{b r p c}(y:Ctx W w (Θ b r p c++S) Φ)(hr:r.bA)(hf:∀ i,i<3->Fit r i){K}(hK:∀ q cap w',(bT r).length<=cap->cap<=maxLen->Ctx W w' (Θ b r p c++S) (λM w=>Φ M w/\Δ M w q (bT r))->K (.returned (.slice q (bT r).length cap)) w'):
  Γ F.Io #[ε b 0] w K:=by
 have Vl:=Fc r.id;have hal:(bT r).length=2:=by unfold bT;rw [List.length_map,Vl]
 refine ak (aE0 b 0 (J:=K∘.returned) y ?_);refine λw G y=>Xa hr.id (cZ y) λk rest w y=>⟨some ⟨k,0,none⟩,2,3,rfl,Θ b r p c++(.blk k ((bu r.id).map (λx:Nat=>fE (x:Int))++rest) 3 :: S),Φ,δ,e4 (Q:=Θ b r p c) (T:=.blk k ((bu r.id).map (λx:Nat=>fE (x:Int))++rest) 3 :: S) (mid y),?_⟩;refine fD (λq n cap mH R' η m=>∃ (i:Nat) (gs:List Value),mH=i/\n=i/\i<=2/\R'=Θ b r p c++(.buf q i cap gs 104 9 :: .blk k ((bu r.id).map (λx:Nat=>fE (x:Int))++rest) 3 :: S)/\η=(λM w=>Φ M w/\dA M w gs ((bT r).take i))/\m=2 - i)
  ⟨⟨_,λM w=>Φ M w/\dA M w [] ((bT r).take 0),_,δ,λw G y=>e4 (Q:=Θ b r p c) (T:=.buf none 0 0 [] 104 9 :: .blk k ((bu r.id).map (λx:Nat=>fE (x:Int))++rest) 3 :: S) (mid ((cZ (Q:=Θ b r p c) (y.weak (Ψ:=λM w=>Φ M w/\dA M w [] ((bT r).take 0)) λM w h=>⟨h,by rw [List.take_zero];exact dA.nil⟩)).yp 104 9)),0,[],rfl,rfl,Nat.zero_le _,rfl,rfl,rfl⟩,?_⟩
 rintro q i cap mH aW ψ m _ ⟨_,gs,rfl,rfl,hi,rfl,rfl,rfl⟩;refine γ.intro (λhlt=>?_) (λhge=>λw G y=>?_)
 .have hlt:i<2:=by have:=aN hlt;omega
  have AH:i<(bu r.id).length:=by omega
  obtain ⟨n,hn⟩:∃ n,(bu r.id)[i]=n:=⟨_,rfl⟩;have F2:n<3:=hn ▸ (Mj _ (List.getElem_mem AH)).1;have hfn:=hf n F2;have hst:O (λM w=>Φ M w/\dA M w gs ((bT r).take i)):=δ;refine ⟨by omega,eu k 0 rfl λw G y=>⟨n,?_,λw G y=>?_⟩⟩
  .rw [Int.toNat_natCast,Nat.zero_add];refine y.get 3 rfl ?_;rw [List.getElem?_append_left (by rw [List.length_map];omega),List.getElem?_map,List.getElem?_eq_getElem AH,hn];rfl
  refine Uf (Φ:=λM w=>Φ M w/\dA M w gs ((bT r).take i)) (cZ y) hr.ζ n rfl hfn λbP cap2 w h1 h2 y=>?_;have q4:O (λM w=>(Φ M w/\dA M w gs ((bT r).take i))/\Δ M w bP (entriesOf r n).ζ):=δ;refine ⟨_,_,_,_,_,_,_,_,bP,_,cap2,rfl,Θ b r p c++(.buf q i cap gs 104 9 :: .blk k ((bu r.id).map (λx:Nat=>fE (x:Int))++rest) 3 :: S),λM w=>(Φ M w/\dA M w gs ((bT r).take i))/\Δ M w bP (entriesOf r n).ζ,q4,e4 y,λk2 w G y=>?_⟩
  have bO:Ctx W w (.blk k2 ((entriesOf r n).cells bP cap2) 104 :: .buf q i cap gs 104 9 :: (Θ b r p c++(.blk k ((bu r.id).map (λx:Nat=>fE (x:Int))++rest) 3 :: (S++G)))) (λM w=>(Φ M w/\dA M w gs ((bT r).take i))/\Δ M w bP (entriesOf r n).ζ):=by
   exact y.perm (List.Perm.cons _ ((List.Perm.of_eq (μ _ _ _)).trans List.perm_middle))
  obtain ⟨p',cap',w',hrun,_,p5⟩:=Ctx.yM (P:=prog) (ts:=68) (ty:=68) (kb:=#[false,false]) (size:=9) (bytes:=88) bO (by kernel_rfl) (by omega) rfl rfl (by omega) (by omega);have qi:O (λM w=>Φ M w/\dA M w (gs++(entriesOf r n).cells bP cap2) ((bT r).take (i+1))):=δ;refine ⟨p',i+1,cap',w',hrun,Θ b r p c++(.buf p' (i+1) cap' (gs++(entriesOf r n).cells bP cap2) 104 9 :: .blk k ((bu r.id).map (λx:Nat=>fE (x:Int))++rest) 3 :: S),λM w=>Φ M w/\dA M w (gs++(entriesOf r n).cells bP cap2) ((bT r).take (i+1)),qi,e4 (mid ((p5.weak λM w h=>⟨h.1.1,?_⟩))),by unfold κ;omega,_,_,2 - (i+1),qi,λw G y=>y,⟨i+1,_,by omega,rfl,by omega,rfl,rfl,rfl⟩,by omega⟩
  have:(bT r).take (i+1)=(bT r).take i++[entriesOf r n]:=by
   rw [List.take_succ_eq_append_getElem (by omega)];unfold bT;rw [List.getElem_map,hn]
  rw [this];exact h.1.2.snoc (NJ (Po hr hfn) h1 h2 h.2)
 .have hge:i=2:=by have:=Λ hge;omega
  subst hge;have htk:(bT r).take 2=bT r:=by rw [<-hal,List.take_length]
  have bO:=front (cZ y);have h:=bO.cy.2;rw [htk] at h;have ep:Ctx W w (.buf q 2 cap gs 104 9 :: (Θ b r p c++(.blk k ((bu r.id).map (λx:Nat=>fE (x:Int))++rest) 3 :: S++G))) Φ:=bO.fst;obtain ⟨lQ,hs,_,hcap,hmax⟩:=Ctx.freeze (α:=aH) ep h;have EX:=(front (lQ.add (Ψ:=λM w=>Δ M w q (bT r)) hs)).drop1;have:=hK q cap w (by rw [hal];exact hcap) hmax (Ctx.left (F:=G) (Φ:=λM w=>Φ M w/\Δ M w q (bT r)) (e4 EX))
  rw [hal] at this;exact this
theorem Dt{x}(h : -1<=x)(h':x<=1099511627777):κ x:=by unfold κ;omega
theorem FP{r:aG}(h:r.bA){kind to index prev yes}(h1:0<=kind/\kind<=3)(h2 : -1<=to/\to<=2)(h3 : -1<=index/\index<=8000)(h4:0<=prev/\prev<=1099511627776):(⟨kind,r.id,to,r.term,index,prev,0,yes,[]⟩:aH).bA:=by
 have h5:=h.id;have h6:=h.jn;have h7:=h.gf;exact ⟨Dt (by simp only;omega) (by simp only;omega),Dt (by simp only;omega) (by simp only;omega),Dt (by simp only;omega) (by simp only;omega),Dt (by simp only;omega) (by simp only;omega),Dt (by simp only;omega) (by simp only;omega),Dt (by simp only;omega) (by simp only;omega),Dt (by simp only;omega) (by simp only;omega)⟩
theorem D5{W w S G}{Φ:θ}[O Φ]{b k r p c m}(y:Ctx W w (Θ b r p c++.blk k (m.cells none 0) 104 :: S++G) Φ)(hm:m.bA)(hr:m.ζ=[]){K}(hK:pX W S Φ b r (gL [m]) K){K2}(hk2:∀ q w',Ctx W w' (Θ b r p c++.blk k (m.cells none 0) 104 :: S++G) (λM w=>Φ M w/\Δ M w q [m])->(∀ w G',Ctx W w (Θ b r p c++.blk k (m.cells none 0) 104 :: S++G') (λM w=>Φ M w/\Δ M w q [m])->K (wB (gL [m]) none 0 q 1) w)->K2 (.returned (wB (gL [m]) none 0 q 1)) w'):
  Γ F.z8 #[m.v none 0] w K2:=by
 refine a2T y m none 0 hm (by rw [hr];exact Nat.le_refl _) (by simp [maxLen]) (λM w h=>by rw [hr];exact Δ.nil) λq w y=>hk2 q w y λw G' y=>?_;have hst:O (λM w=>Φ M w/\Δ M w q [m]):=δ;exact hK.sent (by simp) (by simp [maxLen]) (Ctx.left (F:=G') (lift y).drop1)
set_option maxHeartbeats 1000000 in
theorem aBQ{W w S}{Φ:θ}[O Φ]{b r p c}(y:Ctx W w (Θ b r p c++S) Φ)(hr:r.bA)(m q bW)(h1:0<=m.src)(h2:m.src<=2){K}(hK:pX W S Φ b (cV r m).1 (cV r m).2 λv w=>K (.returned v) w):Γ F.Rh #[ε b 0,m.v q bW] w K:=by
 have hlen:=hr.len;refine ak (aE8 b 0 m.kind m.src m.to m.term m.index m.prev m.υ m.yes q m.ζ.length bW (J:=K∘.returned) y ?_);refine λ_ _ w G y=>R3 (cZ y) 1 m.src λw y=>⟨_,_,_,_,_,_,_,_,none,_,0,rfl,Θ b r p c++S,Φ,δ,e4 y,λk w G y=>⟨y.can 0 rfl (by simp),λw' hw'=>?_⟩⟩;have bO:Ctx W w' (Θ b r p c++.blk k ((lA r 1 m.src).cells none 0) 104 :: S++G) Φ:=sink (y.pO 0 hw' rfl);refine ⟨_,Φ,δ,bO,λw G y=>⟨p,r.log.length,c,y.get 0 rfl rfl,λw G y=>ZL (cZ y) rfl (Nat.le_refl _) hlen λw y=>⟨_,rfl,_,Φ,δ,e4 y,λw G y=>⟨p,r.log.length,c,λ_=>y.get 0 rfl rfl,λw G y=>⟨r.term,y.get 0 rfl rfl,r.ρ,λ_=>y.get 0 rfl rfl,r.ρ,λ_=>y.get 0 rfl rfl,γ.intro (λh=>?_) (λh=>?_)⟩⟩⟩⟩⟩
 .have hv:cV r m=({ r with ρ:=m.src },gL [⟨1,r.id,m.src,r.term,0,0,0,true,[]⟩]):=by unfold cV C6;rw [if_pos h]
  rw [hv] at hK;refine ⟨[],λ_ _=>True,δ,λw G y=>(y.weak λ_ _ _=>trivial).right,λw G y=>⟨y.can 2 rfl (by simp),λw' hw'=>?_⟩⟩;have bO:Ctx W w' (Θ b r p c++.blk k ((⟨1,r.id,m.src,r.term,0,0,0,true,[]⟩:aH).cells none 0) 104 :: S++G) Φ:=y.put 2 hw' rfl;refine ⟨_,Φ,δ,bO,λw G y=>(y.weak λ_ _ _=>trivial).right,λw G y=>⟨y.can 0 rfl (by simp),λw' hw'=>?_⟩⟩;have bO:Ctx W w' (Θ b { r with ρ:=m.src } p c++.blk k ((⟨1,r.id,m.src,r.term,0,0,0,true,[]⟩:aH).cells none 0) 104 :: S++G) Φ:=e4 (sA (cZ y) hw' { r with ρ:=m.src } rfl rfl)
  refine ⟨_,Φ,δ,bO,λw G y=>⟨_,_,_,_,_,_,_,_,none,_,0,y.oW 2 rfl,λw G y=>?_⟩⟩;refine D5 y (FP hr (by omega) (by omega) (by omega) (by omega)) rfl hK λq w y mm=>⟨_,_,_,_,none,_,0,q,_,1,rfl,_,_,δ,y,λw G y=>mm w G y⟩
 .have hv:cV r m=(r,gL [lA r 1 m.src]):=by unfold cV C6;rw [if_neg (by rw [h];simp)]
  rw [hv] at hK;refine λw G y=>⟨_,_,_,_,_,_,_,_,none,_,0,y.oW 2 rfl,λw G y=>?_⟩;refine D5 y (FP hr (by omega) (by omega) (by omega) (by omega)) rfl hK λq w y mm=>⟨_,_,_,_,none,_,0,q,_,1,rfl,_,_,δ,y,λw G y=>mm w G y⟩
def e8(r:aG):aG:={ r with term:=r.term+1,ρ:=r.id,role:=1,bh:=λi=>decide (i=r.id) }
theorem DI{r}(h:r.role=2):cr r=(r,gL (bT r)):=by unfold cr;rw [if_pos h]
theorem JB{r}(h:¬ r.role=2)(h2:r.term=1099511627776):cr r=(r,er):=by unfold cr;rw [if_neg h,if_pos h2]
theorem DH{r}(h:¬ r.role=2)(h2:¬ r.term=1099511627776):cr r=(e8 r,⟨true,r.term+1,r.id,0,[],(bu r.id).map λi=>jS (e8 r) i⟩):=by unfold cr;rw [if_neg h,if_neg h2];rfl
theorem PI{r}(h:r.bA)(hr:¬ r.role=2)(h2:¬ r.term=1099511627776):(e8 r).bA:=by
 have h3:=h.jn;have h4:=h.gf;have h5:=h.id;refine ⟨h.id,by show 0<=r.term+1;omega,by show r.term+1<=_;omega,by show -1<=(r.id:Int);omega,by show (r.id:Int)<=2;omega,⟨h.log.lo,λx hx=>?_,h.log.data,h.log.iq⟩,h.len,.inr (.inl rfl),h.υ,λh=>?_,h.bound⟩
 .have:=h.log.hi x hx;show x.term<=r.term+1;omega
 .cases (show (1:Int)=2 from h)
theorem a2g{r}(h:r.bA)(to)(ht:to<3):(jS r to).bA:=by
 have h1:=h.bB r.log.length;have h2:=h.len;have h4:=h.gf;exact FP h (by omega) (by omega) (by omega) (by omega)
set_option maxHeartbeats 2000000 in
theorem aGI{W w S}{Φ:θ}[O Φ]{b r p c}(y:Ctx W w (Θ b r p c++S) Φ)(hr:r.bA){K}(hK:pX W S Φ b (cr r).1 (cr r).2 λv w=>K (.returned v) w):Γ F.YR #[ε b 0] w K:=by
 have hlen:=hr.len;have hid:=hr.id;have ht0:=hr.jn;have a5h:=hr.gf;refine ak (aDy b 0 (J:=K∘.returned) y ?_);refine λ_ w G y=>⟨r.role,y.get 0 rfl rfl,γ.intro (λh=>λw G y=>?_) (λh=>λw G y=>⟨r.term,y.get 0 rfl rfl,γ.intro (λh2=>λw G y=>?_) (λh2=>?_)⟩)⟩
 .have h:=aN h;rw [DI h] at hK;refine PE (cZ y) hr (λi hi=>hr.fit h hi) λq cap w h1 h2 y=>⟨q,_,cap,rfl,Θ b r p c++S,λM w=>Φ M w/\Δ M w q (bT r),δ,e4 y,λw G y=>hK.sent h1 h2 (Ctx.left (F:=G) (Φ:=λM w=>Φ M w/\Δ M w q (bT r)) y)⟩
 .rw [JB (Λ h) (aN h2)] at hK;exact hK.zero y.left
 have h:=Λ h;have h2:=Λ h2;rw [DH h h2] at hK;have hao:=PI hr h h2;refine λw G y=>⟨r.id,y.get 0 rfl rfl,λw G y=>⟨r.term,y.get 0 rfl rfl,by unfold κ;omega,λw G y=>⟨y.can 0 rfl (by simp),λw' hw'=>?_⟩⟩⟩;have bO:=e4 (Y2 (cZ y) hw' { r with term:=r.term+1,ρ:=r.id } rfl rfl);refine ⟨_,Φ,δ,bO,λw G y=>⟨y.can 0 rfl (by simp),λw' hw'=>?_⟩⟩;have bO:=e4 (sA (cZ y) hw' { r with term:=r.term+1,ρ:=r.id,role:=1 } rfl rfl)
 refine ⟨_,Φ,δ,bO,λw G y=>⟨y.can 0 rfl (by simp),λw' hw'=>?_⟩⟩;have bO:=e4 (Y2 (cZ y) hw' { r with term:=r.term+1,ρ:=r.id,role:=1,bh:=λ_=>false } rfl rfl);refine ⟨_,Φ,δ,bO,[],λ_ _=>True,δ,λw G y=>(y.weak λ_ _ _=>trivial).right,λw G y=>⟨r.id,y.get 0 rfl rfl,by omega,λw G y=>⟨y.can 0 rfl (by rw [Int.toNat_natCast];simp;omega),λw' hw'=>?_⟩⟩⟩;have M4:({ r with term:=r.term+1,ρ:=r.id,role:=1,bh:=put (λ_=>false) r.id true }:aG)=e8 r:=by
  unfold e8
  congr 1
 rw [Int.toNat_natCast,Nat.zero_add] at hw';have bO:=e4 (sA (cZ y) hw' { r with term:=r.term+1,ρ:=r.id,role:=1,bh:=put (λ_=>false) r.id true } (aAE (r:={ r with term:=r.term+1,ρ:=r.id,role:=1,bh:=λ_=>false }) true (by omega)) rfl);rw [M4] at bO;have hal:(bu r.id).length=2:=Fc _;obtain ⟨sl,bp⟩:∃ l,(bu r.id).map (λi=>jS (e8 r) i)=l:=⟨_,rfl⟩;have a5e:sl.length=2:=by rw [<-bp,List.length_map,hal]
 rw [bp] at hK;refine ⟨_,Φ,δ,bO,λw G y=>(y.weak λ_ _ _=>trivial).right,λw G y=>⟨_,_,y.row 0 rfl (D9 (vs:=[.int .i64 (r.term+1),.int .i64 r.id]) rfl),λ_ w G y=>Xa (r:=e8 r) hid (cZ y) λk rest w y=>⟨some ⟨k,0,none⟩,2,3,rfl,Θ b (e8 r) p c++.blk k ((bu r.id).map (λx:Nat=>fE (x:Int))++rest) 3 :: S,Φ,δ,e4 (Q:=Θ b (e8 r) p c) (T:=.blk k ((bu r.id).map (λx:Nat=>fE (x:Int))++rest) 3 :: S) (mid y),?_⟩⟩⟩;refine fD (λmH sv tm gh fr rp rn rc q n cap R' η m=>∃ (i:Nat) (gs:List Value),mH=i/\n=i/\i<=2/\sv=true/\tm=r.term+1/\gh=r.id/\fr=0/\rn=0/\rp=none/\rc=0/\R'=Θ b (e8 r) p c++(.buf q i cap gs 104 9 :: .blk k ((bu r.id).map (λx:Nat=>fE (x:Int))++rest) 3 :: S)/\η=(λM w=>Φ M w/\dA M w gs (sl.take i))/\m=2 - i)
  ⟨⟨_,λM w=>Φ M w/\dA M w [] (sl.take 0),_,δ,λw G y=>e4 (Q:=Θ b (e8 r) p c) (T:=.buf none 0 0 [] 104 9 :: .blk k ((bu r.id).map (λx:Nat=>fE (x:Int))++rest) 3 :: S) (mid ((cZ (Q:=Θ b (e8 r) p c) (y.weak (Ψ:=λM w=>Φ M w/\dA M w [] (sl.take 0)) λM w h=>⟨h,by rw [List.take_zero];exact dA.nil⟩)).yp 104 9)),0,[],rfl,rfl,Nat.zero_le _,rfl,rfl,rfl,rfl,rfl,rfl,rfl,rfl,rfl,rfl⟩,?_⟩
 rintro mH _ _ _ _ _ _ _ q i cap aW ψ m _ ⟨_,gs,rfl,rfl,hi,rfl,rfl,rfl,rfl,rfl,rfl,rfl,rfl,rfl,rfl⟩;refine γ.intro (λhlt=>?_) (λhge=>λw G y=>?_)
 .have hlt:i<2:=by have:=aN hlt;omega
  have AH:i<(bu r.id).length:=by omega
  obtain ⟨n,hn⟩:∃ n,(bu r.id)[i]=n:=⟨_,rfl⟩;have F2:n<3:=hn ▸ (Mj _ (List.getElem_mem AH)).1;have hst:O (λM w=>Φ M w/\dA M w gs (sl.take i)):=δ;refine ⟨by omega,eu k 0 rfl λw G y=>⟨n,?_,λw G y=>?_⟩⟩
  .rw [Int.toNat_natCast,Nat.zero_add];refine y.get 3 rfl ?_;rw [List.getElem?_append_left (by rw [List.length_map];omega),List.getElem?_map,List.getElem?_eq_getElem AH,hn];rfl
  refine R3 (Φ:=λM w=>Φ M w/\dA M w gs (sl.take i)) (cZ y) 0 n λw y=>⟨_,_,_,_,_,_,_,_,none,_,0,rfl,_,_,hst,e4 y,λk2 w G y=>⟨y.can 0 rfl (by simp),λw' hw'=>?_⟩⟩;have bO:Ctx W w' (Θ b (e8 r) p c++.blk k2 ((lA (e8 r) 0 n).cells none 0) 104 :: (.buf q i cap gs 104 9 :: .blk k ((bu r.id).map (λx:Nat=>fE (x:Int))++rest) 3 :: S)++G) (λM w=>Φ M w/\dA M w gs (sl.take i)):=sink (y.pO 0 hw' rfl);refine ⟨_,_,hst,bO,Θ b (e8 r) p c,λ_ _=>True,δ,λw G y=>Wh y,p,r.log.length,c,λw G y=>⟨p,r.log.length,c,y.get 0 rfl rfl,rfl⟩,p,r.log.length,c,λw G y=>⟨p,r.log.length,c,y.get 0 rfl rfl,rfl⟩,λw G y=>ZL (cZ y) rfl (Nat.le_refl _) hlen λw y=>⟨_,rfl,Θ b (e8 r) p c++.blk k2 ((lA (e8 r) 0 n).cells none 0) 104 :: (.buf q i cap gs 104 9 :: .blk k ((bu r.id).map (λx:Nat=>fE (x:Int))++rest) 3 :: S),λM w=>Φ M w/\dA M w gs (sl.take i),hst,e4 y,λw G y=>Wh y,λw G y=>⟨y.can 2 rfl (by simp),λw' hw'=>?_⟩⟩⟩
  have bO:Ctx W w' (Θ b (e8 r) p c++.blk k2 ((⟨0,r.id,n,r.term+1,r.log.length,0,0,false,[]⟩:aH).cells none 0) 104 :: (.buf q i cap gs 104 9 :: .blk k ((bu r.id).map (λx:Nat=>fE (x:Int))++rest) 3 :: S)++G) (λM w=>Φ M w/\dA M w gs (sl.take i)):=y.put 2 hw' rfl;refine ⟨_,_,hst,bO,λw G y=>Wh y,λw G y=>⟨y.can 2 rfl (by simp),λw' hw'=>?_⟩⟩;have bO:Ctx W w' (Θ b (e8 r) p c++.blk k2 ((jS (e8 r) n).cells none 0) 104 :: (.buf q i cap gs 104 9 :: .blk k ((bu r.id).map (λx:Nat=>fE (x:Int))++rest) 3 :: S)++G) (λM w=>Φ M w/\dA M w gs (sl.take i)):=y.put 2 hw' rfl
  refine ⟨_,_,hst,bO,λw G y=>⟨_,_,_,_,_,_,_,_,none,_,0,y.oW 2 rfl,λb8 w G y=>?_⟩⟩;have bO:Ctx W w (.blk b8 ((jS (e8 r) n).cells none 0) 104 :: .buf q i cap gs 104 9 :: (Θ b (e8 r) p c++(.blk k2 ((jS (e8 r) n).cells none 0) 104 :: (.blk k ((bu r.id).map (λx:Nat=>fE (x:Int))++rest) 3 :: S))++G)) (λM w=>Φ M w/\dA M w gs (sl.take i)):=by
   refine y.perm (List.Perm.cons _ ?_);exact (List.Perm.append_right G (List.Perm.append_left _ (List.Perm.swap _ _ _))).trans (List.Perm.append_right G List.perm_middle)
  obtain ⟨p',cap',w',hrun,_,p5⟩:=Ctx.yM (P:=prog) (ts:=68) (ty:=68) (kb:=#[false,false]) (size:=9) (bytes:=88) bO (by kernel_rfl) (by omega) rfl rfl (by omega) (by omega);have qi:O (λM w=>Φ M w/\dA M w (gs++(jS (e8 r) n).cells none 0) (sl.take (i+1))):=δ;have htk:sl.take (i+1)=sl.take i++[jS (e8 r) n]:=by
   rw [List.take_succ_eq_append_getElem (by omega)];exact congrArg (λU=>sl.take i++[U]) (by simp only [<-bp,List.getElem_map,hn])
  have ep:=(front (cZ (Q:=.buf p' (i+1) cap' (gs++(jS (e8 r) n).cells none 0) 104 9 :: Θ b (e8 r) p c) (T:=.blk k2 ((jS (e8 r) n).cells none 0) 104 :: (.blk k ((bu r.id).map (λx:Nat=>fE (x:Int))++rest) 3 :: S)) p5)).drop1;refine ⟨p',i+1,cap',w',hrun,Θ b (e8 r) p c++(.buf p' (i+1) cap' (gs++(jS (e8 r) n).cells none 0) 104 9 :: .blk k ((bu r.id).map (λx:Nat=>fE (x:Int))++rest) 3 :: S),λM w=>Φ M w/\dA M w (gs++(jS (e8 r) n).cells none 0) (sl.take (i+1)),qi,e4 (mid (ep.weak λM w h=>⟨h.1,?_⟩)),by unfold κ;omega,_,_,2 - (i+1),qi,λw G y=>y,⟨i+1,_,by omega,rfl,by omega,rfl,rfl,rfl,rfl,rfl,rfl,rfl,rfl,rfl,rfl⟩,by omega⟩
  rw [htk];exact h.2.snoc (NJ (a2g hao n F2) (Nat.le_refl _) (by simp [maxLen]) Δ.nil)
 .have hge:i=2:=by have:=Λ hge;omega
  subst hge;have htk:sl.take 2=sl:=by rw [<-a5e,List.take_length]
  have bO:=front (cZ y);have h:=bO.cy.2;rw [htk] at h;have ep:Ctx W w (.buf q 2 cap gs 104 9 :: (Θ b (e8 r) p c++(.blk k ((bu r.id).map (λx:Nat=>fE (x:Int))++rest) 3 :: S++G))) Φ:=bO.fst;obtain ⟨lQ,hs,_,hcap,hmax⟩:=Ctx.freeze (α:=aH) ep h;have EX:=(front (lQ.add (Ψ:=λM w=>Δ M w q sl) hs)).drop1;have:=hK p c none 0 q cap w (Nat.le_refl _) (by simp [maxLen]) (by show sl.length<=cap;omega) hmax ((Ctx.left (F:=G) (Φ:=λM w=>Φ M w/\Δ M w q sl) (e4 EX)).weak λM w h=>⟨h.1,Δ.nil,h.2⟩)
  unfold wB at this;simp only at this;rw [a5e] at this;exact this
theorem aQ9(l:List aS)(i)(hi:i<l.length)(least most):r7 (l.drop i) least most=if (decide (l[i].term<least)||decide (most<l[i].term)||decide (2000<(l[i].data.size:Int)))=true then false else r7 (l.drop (i+1)) l[i].term most:=by
 rw [List.drop_eq_getElem_cons hi];rfl
theorem aAM{Φ:θ}[O Φ](p cap l least most)(cL:∀ M w,Φ M w->Δ M w p l)(hlen:l.length<=9223372036854775807):
  fL Φ prog F.Rj #[.slice p l.length cap,.int .i64 least,.int .i64 most] (.bool (r7 l least most)):=by
 refine .there (λM w h=>(cL M w h).there) λxE=>?_;refine rW (aEB p l.length cap least most) λW R=>?_;refine fD (λle n R' η k=>∃ i:Nat,n=i/\i<=l.length/\R'=R/\η=Φ/\k=l.length - i/\r7 l least most=r7 (l.drop i) le most) ⟨⟨R,Φ,_,δ,λw F c=>c,0,rfl,Nat.zero_le _,rfl,rfl,rfl,rfl⟩,?_⟩;rintro le n aW ψ k _ ⟨i,rfl,hi,rfl,rfl,rfl,hs⟩;refine γ.intro (λhlt=>?_) (λhge=>λw F y=>⟨?_,y.left⟩)
 .have hlt:i<l.length:=by simpa using hlt
  obtain ⟨b,o,rfl⟩:=xE (by omega);rw [aQ9 l i hlt] at hs;refine ⟨by omega,eu b o rfl λw F y=>⟨l[i].term,l[i].data,by rw [Int.toNat_natCast];exact J3 (cL _ _ y.cy) hlt,λ_ w F y=>γ.intro (λh=>λw F y=>⟨?_,y.left⟩) (λh=>⟨by unfold κ;omega,aW,ψ,l.length - (i+1),δ,λw F c=>c,⟨i+1,rfl,hlt,rfl,rfl,rfl,?_⟩,by omega⟩)⟩⟩
  .rw [hs,if_pos h]
  .rw [hs,if_neg (by rw [h];simp)]
 .have hge:i=l.length:=Nat.le_antisymm hi (by simpa using hge);rw [hs,hge,List.drop_length];rfl
theorem aPK{W w S}{Φ:θ}[O Φ]{b r p c}(y:Ctx W w (Θ b r p c++S) Φ)(m q bW)(bp:∀ M w,Φ M w->Δ M w q m.ζ)(hlen:m.ζ.length<=9223372036854775807)(nD:κ m.index){K}(hK:∀ w',Ctx W w' (Θ b r p c++S) Φ->K (.returned (.bool (kC r.id m))) w'):Γ F.YU #[ε b 0,m.v q bW] w K:=by
 refine ak (aE7 b 0 m.kind m.src m.to m.term m.index m.prev m.υ m.yes q m.ζ.length bW (J:=K∘.returned) y ?_);have hfalse:∀ {w:World} {G:List Own},kC r.id m=false->Ctx W w (Θ b r p c++S++G) Φ->K (.returned (.bool false)) w:=fun {w G} h y=>by
  have:=hK w y.left;rw [h] at this;exact this
 refine λ_ w G y=>⟨_,λw' hw=>(zm m.kind 0 3).PJ hw,r.id,λ_=>y.get 0 rfl rfl,r.id,λ_=>y.get 0 rfl rfl,_,λ_ w' hw=>(zm m.src 0 2).PJ hw,γ.intro (λh=>λw G y=>?_) (λh1=>λw G y=>?_)⟩
 .refine hfalse ?_ y;rw [Bool.eq_false_iff];intro hr;unfold kC at hr;simp only [Bool.and_eq_true,Bool.or_eq_true,decide_eq_true_eq,Bool.not_eq_true',Bool.and_eq_false_iff,decide_eq_false_iff_not] at hr h;omega
 refine ⟨_,λw' hw=>(zm m.term 1 1099511627776).at hw,_,λ_ w' hw=>(zm m.index 0 4000).at hw,_,λ_ w' hw=>(zm m.prev 0 m.term).at hw,γ.intro (λh=>λw G y=>?_) (λh2=>λw G y=>?_)⟩
 .refine hfalse ?_ y;rw [Bool.eq_false_iff];intro hr;unfold kC at hr;simp only [Bool.and_eq_true,Bool.or_eq_true,decide_eq_true_eq,Bool.not_eq_true',Bool.and_eq_false_iff,decide_eq_false_iff_not] at hr h;omega
 refine ((zm m.υ 0 4000).HL).use (cZ y) λw y=>⟨_,rfl,Θ b r p c++S,Φ,δ,e4 y,γ.intro (λh3=>γ.intro (λh4=>?_) (λh=>λw G y=>?_)) (λh=>λw G y=>?_)⟩
 .simp only [Bool.and_eq_true,Bool.or_eq_true,decide_eq_true_eq,Bool.or_eq_false_iff,Bool.not_eq_false',Bool.and_eq_false_iff,decide_eq_false_iff_not] at h1 h2 h3 h4;refine ⟨by unfold κ;omega,γ.intro (λh5=>λw G y=>?_) (λh=>λw G y=>?_)⟩
  .have h5:=aN h5;refine (aAM q bW m.ζ (max 1 m.prev) m.term bp hlen).use (cZ y) λw y=>⟨_,rfl,Θ b r p c++S,Φ,δ,e4 y,λw G y=>?_⟩;have:=hK w y.left;have hr:kC r.id m=r7 m.ζ (max 1 m.prev) m.term:=by
    unfold kC;have hz:(!(decide (m.index=0)&&decide (m.prev≠0)))=true:=by
     simp only [Bool.not_eq_true',Bool.and_eq_false_iff,decide_eq_false_iff_not];omega
    rw [hz,decide_eq_true (show 0<=m.kind by omega),decide_eq_true (show m.kind<=3 by omega),decide_eq_true (show m.to=r.id by omega),decide_eq_true (show m.src≠r.id by omega),decide_eq_true (show 0<=m.src by omega),decide_eq_true (show m.src<=2 by omega),
     decide_eq_true (show 1<=m.term by omega),decide_eq_true (show m.term<=1099511627776 by omega),decide_eq_true (show 0<=m.index by omega),decide_eq_true (show m.index<=4000 by omega),decide_eq_true (show 0<=m.prev by omega),decide_eq_true (show m.prev<=m.term by omega),
     decide_eq_true (show 0<=m.υ by omega),decide_eq_true (show m.υ<=4000 by omega),decide_eq_true h4,decide_eq_true h5]
    rfl
   rw [hr] at this;exact this
  .refine hfalse ?_ y;rw [Bool.eq_false_iff];intro hr;unfold kC at hr;simp only [Bool.and_eq_true,decide_eq_true_eq,decide_eq_false_iff_not] at hr h;omega
 .refine hfalse ?_ y;rw [Bool.eq_false_iff];intro hr;unfold kC at hr;simp only [Bool.and_eq_true,decide_eq_true_eq,decide_eq_false_iff_not] at hr h;omega
 .refine hfalse ?_ y;rw [Bool.eq_false_iff];intro hr;unfold kC at hr;simp only [Bool.and_eq_true,decide_eq_true_eq,Bool.and_eq_false_iff,decide_eq_false_iff_not] at hr h;omega
def s9(id term ρ:Int)(l:List aS):Bool:=decide (0<=id)&&decide (id<=2)&&decide (0<=term)&&decide (term<=1099511627776)&&decide (-1<=ρ)&&decide (ρ<=2)&&decide ((l.length:Int)<=4000)&&r7 l 1 term
theorem aFP{W w S}{Φ:θ}[O Φ](y:Ctx W w S Φ)(id term ρ l q bW)(bp:∀ M w,Φ M w->Δ M w q l)(hlen:l.length<=9223372036854775807){K}(h0:s9 id term ρ l=false->∀ w',Ctx W w' S Φ->K (.returned (.pointer none)) w')(h1:s9 id term ρ l=true->∀ b p c w',Ctx W w' (Θ b (fR id.toNat term ρ l) p c++S) Φ->K (.returned (ε b 0)) w'):Γ F.YK #[.int .i64 id,.agg #[.int .i64 term,.int .i64 ρ],.slice q l.length bW] w K:=by
 refine ak (aDq id term ρ q l.length bW (J:=K∘.returned) y ?_);have hf:∀ {w:World} {G:List Own},s9 id term ρ l=false->Ctx W w (S++G) Φ->K (.returned (.pointer none)) w:=λh y=>h0 h _ y.left;refine λ_ w G y=>(zm id 0 2).HL.use y λw y=>⟨_,rfl,S,Φ,δ,y,γ.intro (λh=>λw G y=>hf ?_ y) (λoN=>λw G y=>(zm term 0 1099511627776).HL.use y λw y=>⟨_,rfl,S,Φ,δ,y,γ.intro (λh=>λw G y=>hf ?_ y) (λx7=>λw G y=>(zm ρ (-1) 2).HL.use y λw y=>⟨_,rfl,S,Φ,δ,y,γ.intro (λh=>λw G y=>hf ?_ y) (λaK3=>γ.intro (λh=>λw G y=>hf ?_ y) (λaK4=>λw G y=>(aAM q bW l 1 term bp hlen).use y λw y=>⟨_,rfl,S,Φ,δ,y,γ.intro (λh=>λw G y=>hf ?_ y) (λa56=>?_)⟩))⟩)⟩)⟩
 .unfold s9;rw [Bool.eq_false_iff];intro hr;simp only [Bool.and_eq_true,decide_eq_true_eq,Bool.not_eq_true',Bool.and_eq_false_iff,decide_eq_false_iff_not] at hr h;omega
 .unfold s9;rw [Bool.eq_false_iff];intro hr;simp only [Bool.and_eq_true,decide_eq_true_eq,Bool.not_eq_true',Bool.and_eq_false_iff,decide_eq_false_iff_not] at hr h;omega
 .unfold s9;rw [Bool.eq_false_iff];intro hr;simp only [Bool.and_eq_true,decide_eq_true_eq,Bool.not_eq_true',Bool.and_eq_false_iff,decide_eq_false_iff_not] at hr h;omega
 .unfold s9;rw [Bool.eq_false_iff];intro hr;simp only [Bool.and_eq_true,decide_eq_true_eq] at hr h;omega
 .unfold s9;rw [show r7 l 1 term=false by simpa using h,Bool.and_false]
 .simp only [Bool.not_eq_false',Bool.and_eq_true,decide_eq_true_eq,decide_eq_false_iff_not] at oN x7 aK3 aK4 a56;have hn:s9 id term ρ l=true:=by
   unfold s9;rw [a56,Bool.and_true];simp only [Bool.and_eq_true,decide_eq_true_eq];omega
  refine ⟨[],λ_ _=>True,δ,λw G y=>(y.weak λ_ _ _=>trivial).right,λw G y=>Jd y bp (by omega) λp cap w y=>⟨p,_,cap,rfl,.buf p l.length cap (dZ l) 76 2 :: S,Φ,δ,y,λw G y=>(y.weak λ_ _ _=>trivial).right,λk=>⟨λw G y=>(y.weak λ_ _ _=>trivial).right,λw G y=>?_⟩⟩⟩;have hid:id=(id.toNat:Nat):=by omega
  refine h1 hn k p cap w ?_;have:=y.left;rw [hid] at this;exact this
theorem DN{r m}(h:(decide (r.role≠1)||decide (m.term≠r.term) || !m.yes)=true):eC r m=(r,er):=by unfold eC;rw [if_pos h]
def fU(r:aG)(m:aH):aG:={ r with bh:=put r.bh m.src.toNat true }
def iX(r:aG)(m:aH):aG:={ fU r m with role:=2,next:=λ_=>r.log.length+1,Ω:=λ_=>0 }
theorem DL{r m}(h:(decide (r.role≠1)||decide (m.term≠r.term) || !m.yes)=false)(h2:ni (fU r m).bh<2):eC r m=(fU r m,er):=by
 unfold eC;rw [if_neg (by rw [h];simp)];show (if ni (fU r m).bh<2 then _ else _)=_;rw [if_pos h2];rfl
theorem DM{r m}(h:(decide (r.role≠1)||decide (m.term≠r.term) || !m.yes)=false)(h2:¬ ni (fU r m).bh<2):eC r m=(iX r m,gL (bT (iX r m))):=by
 unfold eC;rw [if_neg (by rw [h];simp)];show (if ni (fU r m).bh<2 then _ else _)=_;rw [if_neg h2];rfl
theorem Wl{r}(h:r.bA)(m):(iX r m).bA:=by
 have h1:=h.len;exact ⟨h.id,h.jn,h.gf,h.sJ,h.sK,h.log,h.len,.inr (.inr rfl),h.υ,λ_ i=>⟨by show 1<=r.log.length+1;omega,Nat.le_refl _,Nat.zero_le _⟩,λi=>⟨by show r.log.length+1<=4001;omega,by show 0<=4000;omega⟩⟩
def zq(v:Nat->Bool):Nat->Nat
 | 0=>0
 | k+1=>zq v k+wg (v k)
theorem a3h(v i):zq v (i+1)=zq v i+wg (v i):=rfl
set_option maxHeartbeats 1000000 in
theorem aBR{W w S}{Φ:θ}[O Φ]{b r p c}(y:Ctx W w (Θ b r p c++S) Φ)(hr:r.bA)(m q bW)(h1:0<=m.src)(h2:m.src<=2){K}(hK:pX W S Φ b (eC r m).1 (eC r m).2 λv w=>K (.returned v) w):Γ F.Ri #[ε b 0,m.v q bW] w K:=by
  have hlen:=hr.len;refine ak (aE9 b 0 m.kind m.src m.to m.term m.index m.prev m.υ m.yes q m.ζ.length bW (J:=K∘.returned) y ?_);refine λ_ _ w G y=>⟨r.role,y.get 0 rfl rfl,r.term,λ_=>y.get 0 rfl rfl,γ.intro (λh=>λw G y=>?_) (λh=>?_)⟩
  · rw [DN h] at hK
    exact hK.zero y.left
  refine ⟨[],λ_ _=>True,δ,λw G y=>(y.weak λ_ _ _=>trivial).right,by omega,λw G y=>⟨y.can 0 rfl (by simp;omega),λw' hw'=>?_⟩⟩;rw [Nat.zero_add] at hw';have bO:Ctx W w' (Θ b (fU r m) p c++S++G) Φ:=e4 (sA (cZ y) hw' (fU r m) (aAE (r:=r) true (by omega)) rfl);refine ⟨_,Φ,δ,bO,λw G y=>(y.weak λ_ _ _=>trivial).right,λw G y=>⟨(fU r m).bh 0,(fU r m).bh 1,(fU r m).bh 2,y.row 0 rfl (D9 (vs:=[.bool ((fU r m).bh 0),.bool ((fU r m).bh 1),.bool ((fU r m).bh 2)]) rfl),?_⟩⟩
  refine fD (λn mH R' η k=>∃ i:Nat,mH=i/\i<=3/\n=zq (fU r m).bh i/\R'=Θ b (fU r m) p c++S/\η=Φ/\k=3 - i) ⟨⟨_,Φ,_,δ,λw G y=>y,0,rfl,Nat.zero_le _,rfl,rfl,rfl,rfl⟩,?_⟩;rintro n mH aW ψ k _ ⟨i,rfl,hi,rfl,rfl,rfl,rfl⟩;have hct:zq (fU r m).bh i<=3:=by
    have:∀ j,zq (fU r m).bh j<=j:=by
      intro j
      induction j with
      | zero=>exact Nat.le_refl _
      | succ j ih => unfold zq; have : wg ((fU r m).bh j) <= 1 := by unfold wg; split <;> omega
                     omega
    have:=this i;omega
  refine γ.intro (λhlt=>?_) (λhge=>?_)
  · have hlt:i<3:=by have:=aN hlt;omega
    refine ⟨(fU r m).bh i,⟨by omega,by omega,?_⟩,γ.intro (λhv=>⟨by unfold κ;omega,by unfold κ;omega,_,ψ,3 - (i+1),δ,λw G y=>y,⟨i+1,rfl,by omega,?_,rfl,rfl,rfl⟩,by omega⟩) (λhv=>⟨by unfold κ;omega,_,ψ,3 - (i+1),δ,λw G y=>y,⟨i+1,rfl,by omega,?_,rfl,rfl,rfl⟩,by omega⟩)⟩
    · match i,hlt with
      | 0,_=>rfl
      | 1,_=>rfl
      | 2,_=>rfl
    · rw [a3h,hv];simp [wg]
    · rw [a3h,hv];simp [wg]
  · have hge:i=3:=by have:=Λ hge;omega
    subst hge;have a5A:zq (fU r m).bh 3=ni (fU r m).bh:=by simp [zq,ni]
    rw [a5A];refine γ.intro (λqc=>λw G y=>?_) (λqc=>λw G y=>⟨y.can 0 rfl (by simp),λw' hw'=>?_⟩)
    · have qc:=aN qc
      rw [DL h (by omega)] at hK;exact hK.zero y.left
    have qc:=Λ qc;rw [DM h (by omega)] at hK;have bO:Ctx W w' (Θ b { fU r m with role:=2 } p c++S++G) ψ:=e4 (sA (cZ y) hw' { fU r m with role:=2 } rfl rfl);refine ⟨_,ψ,δ,bO,?_⟩;refine fD (λmH R' η k=>∃ (i:Nat) (nN mt:Nat->Nat),mH=i/\i<=3/\(∀ j,j<i->nN j=r.log.length+1/\mt j=0)/\R'=Θ b { fU r m with role:=2,next:=nN,Ω:=mt } p c++S/\η=ψ/\k=3 - i) ⟨⟨_,ψ,_,δ,λw G y=>y,0,r.next,r.Ω,rfl,Nat.zero_le _,λj h=>by omega,rfl,rfl,rfl⟩,?_⟩
    rintro mH dM dF k _ ⟨i,nN,mt,rfl,hi,hnm,rfl,rfl,rfl⟩;refine γ.intro (λhlt=>?_) (λhge=>λw G y=>?_)
    · have hlt:i<3:=by have:=aN hlt;omega
      refine ⟨[],λ_ _=>True,δ,λw G y=>(y.weak λ_ _ _=>trivial).right,λw G y=>⟨p,r.log.length,c,y.get 0 rfl rfl,by unfold κ;omega,by omega,λw G y=>⟨y.can 0 rfl (by simp;omega),λw' hw'=>?_⟩⟩⟩;rw [Nat.zero_add,Int.toNat_natCast,show ((r.log.length:Int)+1)=((r.log.length+1:Nat):Int) by omega] at hw';have bO:=e4 (sA (cZ y) hw' { fU r m with role:=2,next:=put nN i (r.log.length+1),Ω:=mt } (Yt (r:={ fU r m with role:=2,next:=nN,Ω:=mt }) (r.log.length+1) hlt) rfl)
      refine ⟨_,dF,δ,bO,λw G y=>(y.weak λ_ _ _=>trivial).right,by omega,λw G y=>⟨y.can 0 rfl (by simp;omega),λw' hw'=>?_⟩⟩;rw [Nat.zero_add,Int.toNat_natCast] at hw';have bO:=e4 (sA (cZ y) hw' { fU r m with role:=2,next:=put nN i (r.log.length+1),Ω:=put mt i 0 } (aAD (r:={ fU r m with role:=2,next:=put nN i (r.log.length+1),Ω:=mt }) 0 hlt) rfl);refine ⟨_,dF,δ,bO,λw G y=>(y.weak λ_ _ _=>trivial).right,by unfold κ;omega,_,dF,3 - (i+1),δ,λw G y=>y,⟨i+1,put nN i (r.log.length+1),put mt i 0,rfl,by omega,λj hj=>?_,rfl,rfl,rfl⟩,by omega⟩
      unfold put;by_cases hji:j=i
      · rw [if_pos hji,if_pos hji];exact ⟨rfl,rfl⟩
      · rw [if_neg hji,if_neg hji];exact hnm j (by omega)
    · have hge:i=3:=by have:=Λ hge;omega
      subst hge;have hcells:({ fU r m with role:=2,next:=nN,Ω:=mt }:aG).cells p c=(iX r m).cells p c:=by
        simp only [aG.cells,iX,(hnm 0 (by omega)).1,(hnm 1 (by omega)).1,(hnm 2 (by omega)).1,(hnm 0 (by omega)).2,(hnm 1 (by omega)).2,(hnm 2 (by omega)).2]
      have bO:Ctx W w (Θ b (iX r m) p c++(S++G)) dF:=by
        have:=cZ y;unfold Θ at this;rw [hcells] at this;exact this
      have hlo:=Wl hr m;exact PE bO hlo (λi hi=>hlo.fit rfl hi) λq cap w h1 h2 y=>⟨q,_,cap,rfl,Θ b (iX r m) p c++S,λM w=>dF M w/\Δ M w q (bT (iX r m)),δ,e4 y,λw G y=>hK.sent h1 h2 (Ctx.left (F:=G) (Φ:=λM w=>dF M w/\Δ M w q (bT (iX r m))) y)⟩
def FO(r:aG)(l:List Nat):Nat:=l.foldl (λa i=>max a (r.Ω i)) 0
theorem aN5{r}{l:List Nat}{i}(h:i<l.length):FO r (l.take (i+1))=max (FO r (l.take i)) (r.Ω l[i]):=by
 unfold FO;rw [List.take_succ_eq_append_getElem h,List.foldl_append];rfl
theorem a7B{r n}(h:∀ i,r.Ω i<=n)(l):FO r l<=n:=by
 have:∀ (l:List Nat) (a:Nat),a<=n->l.foldl (λa i=>max a (r.Ω i)) a<=n:=by
  intro l
  induction l with
  | nil=>intro a h;exact h
  | cons x l ih=>intro a ha;exact ih _ (Nat.max_le.2 ⟨ha,h x⟩)
 exact this l 0 (Nat.zero_le _)
set_option maxHeartbeats 1000000 in
theorem aGN{W w S}{Φ:θ}[O Φ]{b r p c}(y:Ctx W w (Θ b r p c++S) Φ)(hid:r.id<=2)(hlen:r.log.length<=4000)(hm:∀ i,r.Ω i<=r.log.length){K}(hK:∀ w',Ctx W w' (Θ b (cA r) p c++S) Φ->K (.returned (.tuple #[])) w'):Γ F.YS #[ε b 0] w K:=by
 have Vl:=Fc r.id;refine ak (aDz b 0 (J:=K∘.returned) y ?_);refine λw G y=>Xa hid (cZ y) λk rest w y=>⟨some ⟨k,0,none⟩,2,3,rfl,Θ b r p c++(.blk k ((bu r.id).map (λx:Nat=>fE (x:Int))++rest) 3 :: S),Φ,δ,e4 (Q:=Θ b r p c) (T:=.blk k ((bu r.id).map (λx:Nat=>fE (x:Int))++rest) 3 :: S) (mid y),?_⟩;refine fD (λn mH R' η m=>∃ i:Nat,mH=i/\i<=2/\n=FO r ((bu r.id).take i)/\R'=Θ b r p c++(.blk k ((bu r.id).map (λx:Nat=>fE (x:Int))++rest) 3 :: S)/\η=Φ/\m=2 - i) ⟨⟨_,Φ,_,δ,λw G y=>y,0,rfl,Nat.zero_le _,rfl,rfl,rfl,rfl⟩,?_⟩
 rintro n mH aW ψ m _ ⟨i,rfl,hi,rfl,rfl,rfl,rfl⟩;refine γ.intro (λhlt=>?_) (λhge=>λw G y=>?_)
 .have hlt:i<2:=by have:=aN hlt;omega
  have AH:i<(bu r.id).length:=by omega
  have F2:=(Mj _ (List.getElem_mem AH)).1;refine ⟨by omega,eu k 0 rfl λw G y=>⟨((bu r.id)[i]:Nat),?_,by omega,λw G y=>⟨(r.Ω (bu r.id)[i]:Nat),?_,by unfold κ;omega,_,ψ,2 - (i+1),δ,λw G y=>y,⟨i+1,rfl,by omega,?_,rfl,rfl,rfl⟩,by omega⟩⟩⟩
  .rw [Int.toNat_natCast,Nat.zero_add];refine y.get 2 rfl ?_;rw [List.getElem?_append_left (by rw [List.length_map];omega),List.getElem?_map,List.getElem?_eq_getElem AH];rfl
  .rw [Int.toNat_natCast,Nat.zero_add];exact y.get 0 rfl (PX F2)
  .rw [aN5 AH];omega
 .have hge:i=2:=by have:=Λ hge;omega
  subst hge;have htk:(bu r.id).take 2=bu r.id:=by rw [<-Vl,List.take_length]
  rw [htk];have hml:=a7B hm (bu r.id);have mm:∀ {w:World} {G:List Own} {r':aG},Ctx W w (Θ b r' p c++(.blk k ((bu r.id).map (λx:Nat=>fE (x:Int))++rest) 3 :: S)++G) ψ->Ctx W w (Θ b r' p c++S) ψ:=λy=>(front y.left).drop1;refine ⟨r.υ,y.get 0 rfl rfl,_,λ_ w' hw=>ZJ (Ez (cZ y)) rfl hml hlen hw,r.term,λ_=>y.get 0 rfl rfl,γ.intro (λh=>λw G y=>⟨y.can 0 rfl (by simp),λw' hw'=>?_⟩) (λh=>λw G y=>?_)⟩
  .have ha:cA r={ r with υ:=qs r }:=by
    unfold cA;rw [if_pos];simp only [Bool.and_eq_true,decide_eq_true_eq] at h ⊢;exact ⟨by have:=h.1;show r.υ<FO r (bu r.id);omega,h.2⟩
   rw [ha] at hK;have bO:=e4 (sA (cZ y) hw' { r with υ:=qs r } rfl rfl);exact ⟨_,ψ,δ,bO,λw G y=>hK w (mm y)⟩
  .have ha:cA r=r:=by
    unfold cA;rw [if_neg];intro h';simp only [Bool.and_eq_true,decide_eq_true_eq,Bool.and_eq_false_iff,decide_eq_false_iff_not] at h h';rcases h with h|h
    .have:=h'.1;change r.υ<FO r (bu r.id) at this;omega
    .exact h h'.2
   rw [ha] at hK;exact hK w (mm y)
def lP(r:aG)(m:aH):aG:={ r with next:=put r.next m.src.toNat (max (r.Ω m.src.toNat+1) (min (r.next m.src.toNat - 1) (m.index.toNat+1))) }
def cB(r:aG)(m:aH):aG:={ r with Ω:=put r.Ω m.src.toNat (max (r.Ω m.src.toNat) m.index.toNat),next:=put r.next m.src.toNat (max (r.Ω m.src.toNat) m.index.toNat+1) }
theorem EO{r m}(h:(decide (r.role≠2)||decide (m.term≠r.term)||m.yes&&decide ((r.log.length:Int)<m.index))=true):dQ r m=(r,er):=by unfold dQ;rw [if_pos h]
theorem EM{r m}(h:(decide (r.role≠2)||decide (m.term≠r.term)||m.yes&&decide ((r.log.length:Int)<m.index))=false)(hy:m.yes=false):dQ r m=(lP r m,gL [entriesOf (lP r m) m.src.toNat]):=by
 unfold dQ;rw [if_neg (by rw [h];simp)];simp only [hy,if_true];rfl
theorem EN{r m}(h:(decide (r.role≠2)||decide (m.term≠r.term)||m.yes&&decide ((r.log.length:Int)<m.index))=false)(hy:m.yes=true):
  dQ r m=if max (r.Ω m.src.toNat) m.index.toNat+1<=r.log.length then (cA (cB r m),gL [entriesOf (cA (cB r m)) m.src.toNat]) else (cA (cB r m),er):=by
 unfold dQ;rw [if_neg (by rw [h];simp)];simp only [hy,Bool.true_eq_false,if_false];rfl
theorem a2l{r}(h:r.bA)(hr:r.role=2)(m):(lP r m).bA:=by
 have h1:=h.len;have h2:=h.next hr m.src.toNat;refine ⟨h.id,h.jn,h.gf,h.sJ,h.sK,h.log,h.len,h.role,h.υ,λ_ i=>?_,λi=>?_⟩
 .have h3:=h.next hr i;show 1<=put r.next _ _ i/\put r.next _ _ i<=r.log.length+1/\r.Ω i<=r.log.length;unfold put;split
  .omega
  .exact h3
 .have h3:=h.next hr i;show put r.next _ _ i<=4001/\r.Ω i<=4000;unfold put;split<;>omega
theorem a4Y{r}(h:r.bA)(hr:r.role=2)(m)(hm:m.index.toNat<=r.log.length):(cB r m).bA:=by
 have h1:=h.len;have h2:=h.next hr m.src.toNat;refine ⟨h.id,h.jn,h.gf,h.sJ,h.sK,h.log,h.len,h.role,h.υ,λ_ i=>?_,λi=>?_⟩
 .have h3:=h.next hr i;show 1<=put r.next _ _ i/\put r.next _ _ i<=r.log.length+1/\put r.Ω _ _ i<=r.log.length;unfold put;split
  .omega
  .exact h3
 .have h3:=h.next hr i;show put r.next _ _ i<=4001/\put r.Ω _ _ i<=4000;unfold put;split<;>omega
theorem a2O{r}(h:r.bA)(hr:r.role=2):(cA r).bA:=by
 unfold cA;split
 .refine ⟨h.id,h.jn,h.gf,h.sJ,h.sK,h.log,h.len,h.role,?_,h.next,h.bound⟩;exact a7B (λi=>(h.next hr i).2.2) (bu r.id)
 .exact h
theorem wY(r):(cA r).role=r.role/\(cA r).log=r.log/\(cA r).next=r.next/\(cA r).Ω=r.Ω/\(cA r).id=r.id/\(cA r).term=r.term/\(cA r).ρ=r.ρ:=by
 unfold cA;split<;>exact ⟨rfl,rfl,rfl,rfl,rfl,rfl,rfl⟩
set_option maxHeartbeats 1000000 in
theorem a2S{W w S G}{Φ:θ}[O Φ]{b r p c q cap n}(y:Ctx W w (Θ b r p c++S++G) (λM w=>Φ M w/\Δ M w q (entriesOf r n).ζ))(hm:(entriesOf r n).bA)(h1:(entriesOf r n).ζ.length<=cap)(h2:cap<=maxLen){K}(hK:pX W S Φ b r (gL [entriesOf r n]) K){K2}(hk2:∀ q w',Ctx W w' (Θ b r p c++S++G) (λM w=>Φ M w/\Δ M w q [entriesOf r n])->(∀ w G',Ctx W w (Θ b r p c++S++G') (λM w=>Φ M w/\Δ M w q [entriesOf r n])->K (wB (gL [entriesOf r n]) none 0 q 1) w)->K2 (.returned (wB (gL [entriesOf r n]) none 0 q 1)) w'):
  Γ F.z8 #[(entriesOf r n).v q cap] w K2:=by
 have hst:O (λM w=>Φ M w/\Δ M w q (entriesOf r n).ζ):=δ;refine a2T y (entriesOf r n) q cap hm h1 h2 (λM w h=>h.2) λbP w y=>hk2 bP w (y.weak λM w h=>⟨h.1.1,h.2⟩) λw G' y=>?_;have hst:O (λM w=>Φ M w/\Δ M w bP [entriesOf r n]):=δ;exact hK.sent (by simp) (by simp [maxLen]) (Ctx.left (F:=G') y)
set_option maxHeartbeats 1000000 in
theorem a2d{W w S}{Φ:θ}[O Φ]{b r p c}(y:Ctx W w (Θ b r p c++S) Φ)(hr:r.bA)(m q bW)(h1:0<=m.src)(h2:m.src<=2)(h3:0<=m.index)(h4:m.index<=4000){K}(hK:pX W S Φ b (dQ r m).1 (dQ r m).2 λv w=>K (.returned v) w):Γ F.Rg #[ε b 0,m.v q bW] w K:=by
 have hlen:=hr.len;have nq:m.src=(m.src.toNat:Nat):=by omega
 have hs3:m.src.toNat<3:=by omega
 refine ak (aE2 b 0 m.kind m.src m.to m.term m.index m.prev m.υ m.yes q m.ζ.length bW (J:=K∘.returned) y ?_);refine λ_ _ w G y=>⟨r.role,y.get 0 rfl rfl,r.term,λ_=>y.get 0 rfl rfl,p,r.log.length,c,λ_=>y.get 0 rfl rfl,γ.intro (λh=>λw G y=>?_) (λh=>λw G y=>⟨by omega,by omega,γ.intro (λhy=>λw G y=>?_) (λhy=>λw G y=>?_)⟩)⟩
 .rw [EO h] at hK;exact hK.zero y.left
 .have hy:m.yes=false:=by simpa using hy
  rw [EM h hy] at hK;have cI:r.role=2:=by
   simp only [Bool.or_eq_false_iff,decide_eq_false_iff_not] at h;exact Decidable.not_not.1 h.1.1
  have hn:=hr.next cI m.src.toNat;have QM:=a2l hr cI m;refine ⟨(r.Ω m.src.toNat:Nat),by rw [Nat.zero_add];exact y.get 0 rfl (PX hs3),λw G y=>⟨(r.next m.src.toNat:Nat),by rw [Nat.zero_add];exact y.get 0 rfl (To hs3),by unfold κ;omega,by unfold κ;omega,by unfold κ;omega,λw G y=>⟨y.can 0 rfl (by simp;omega),λw' hw'=>?_⟩⟩⟩;have hval:max ((r.Ω m.src.toNat:Int)+1) (min ((r.next m.src.toNat:Int) - 1) (m.index+1))=((max (r.Ω m.src.toNat+1) (min (r.next m.src.toNat - 1) (m.index.toNat+1)):Nat):Int):=by omega
  rw [Nat.zero_add,hval] at hw';have bO:Ctx W w' (Θ b (lP r m) p c++S++G) Φ:=e4 (sA (cZ y) hw' (lP r m) (Yt (r:=r) _ hs3) rfl);refine ⟨_,Φ,δ,bO,λw G y=>?_⟩;refine Uf (cZ y) QM.ζ m.src.toNat nq (QM.fit cI hs3) λbP cap2 w g1 g2 y=>?_;have hst:O (λM w=>Φ M w/\Δ M w bP (entriesOf (lP r m) m.src.toNat).ζ):=δ;refine ⟨_,_,_,_,_,_,_,_,bP,_,cap2,rfl,Θ b (lP r m) p c++S,λM w=>Φ M w/\Δ M w bP (entriesOf (lP r m) m.src.toNat).ζ,hst,e4 y,λw G y=>?_⟩
  refine a2S y (Po QM (QM.fit cI hs3)) g1 g2 hK λgC w y mm=>⟨_,_,_,_,none,_,0,gC,_,1,rfl,Θ b (lP r m) p c++S,λM w=>Φ M w/\Δ M w gC [entriesOf (lP r m) m.src.toNat],δ,y,λw G y=>mm w G y⟩
 .have hy:m.yes=true:=by simpa using hy
  rw [EN h hy] at hK;simp only [Bool.or_eq_false_iff,decide_eq_false_iff_not,hy,Bool.true_and] at h;have cI:r.role=2:=Decidable.not_not.1 h.1.1;have nD:m.index.toNat<=r.log.length:=by have:=h.2;omega
  have hn:=hr.next cI m.src.toNat;have hfo:=a4Y hr cI m nD;obtain ⟨e1,e2,bI,bL,bz,eX,iT⟩:=wY (cB r m);have hao:=a2O hfo cI;refine ⟨(r.Ω m.src.toNat:Nat),by rw [Nat.zero_add];exact y.get 0 rfl (PX hs3),λw G y=>⟨y.can 0 rfl (by simp;omega),λw' hw'=>?_⟩⟩;have hval:max (r.Ω m.src.toNat:Int) m.index=((max (r.Ω m.src.toNat) m.index.toNat:Nat):Int):=by omega
  rw [Nat.zero_add,hval] at hw';have bO:=e4 (sA (cZ y) hw' { r with Ω:=put r.Ω m.src.toNat (max (r.Ω m.src.toNat) m.index.toNat) } (aAD (r:=r) _ hs3) rfl);have rY:({ r with Ω:=put r.Ω m.src.toNat (max (r.Ω m.src.toNat) m.index.toNat) }:aG).Ω m.src.toNat=max (r.Ω m.src.toNat) m.index.toNat:=by simp [put]
  refine ⟨_,Φ,δ,bO,λw G y=>⟨((max (r.Ω m.src.toNat) m.index.toNat:Nat):Int),?_,by unfold κ;omega,λw G y=>⟨y.can 0 rfl (by simp;omega),λw' hw'=>?_⟩⟩⟩
  .rw [Nat.zero_add];have:=y.get 0 rfl (PX (r:={ r with Ω:=put r.Ω m.src.toNat (max (r.Ω m.src.toNat) m.index.toNat) }) (p:=p) (c:=c) hs3);rw [rY] at this;exact this
  rw [Nat.zero_add,show (((max (r.Ω m.src.toNat) m.index.toNat:Nat):Int)+1)=((max (r.Ω m.src.toNat) m.index.toNat+1:Nat):Int) by omega] at hw';have bO:Ctx W w' (Θ b (cB r m) p c++S++G) Φ:=e4 (sA (cZ y) hw' (cB r m) (Yt (r:={ r with Ω:=put r.Ω m.src.toNat (max (r.Ω m.src.toNat) m.index.toNat) }) _ hs3) rfl);refine ⟨_,Φ,δ,bO,λw G y=>aGN (cZ y) hr.id hlen (λi=>(hfo.next cI i).2.2) λw y=>⟨rfl,Θ b (cA (cB r m)) p c++S,Φ,δ,e4 y,λw G y=>⟨((max (r.Ω m.src.toNat) m.index.toNat+1:Nat):Int),?_,p,(cA (cB r m)).log.length,c,y.get 0 rfl rfl,γ.intro (λhle=>λw G y=>?_) (λhle=>λw G y=>?_)⟩⟩⟩
  .rw [Nat.zero_add];have:=y.get 0 rfl (To (r:=cA (cB r m)) (p:=p) (c:=c) hs3);rw [bI] at this;have nB:(cB r m).next m.src.toNat=max (r.Ω m.src.toNat) m.index.toNat+1:=by simp [cB,put]
   rw [nB] at this;exact this
  .have hle:=aN hle;rw [e2] at hle;have hle:max (r.Ω m.src.toNat) m.index.toNat+1<=r.log.length:=by
    have:(cB r m).log=r.log:=rfl;rw [this] at hle;omega
   rw [if_pos hle] at hK;have hro:(cA (cB r m)).role=2:=by rw [e1];exact cI
   refine Uf (cZ y) hao.ζ m.src.toNat nq (hao.fit hro hs3) λbP cap2 w g1 g2 y=>?_;have hst:O (λM w=>Φ M w/\Δ M w bP (entriesOf (cA (cB r m)) m.src.toNat).ζ):=δ;refine ⟨_,_,_,_,_,_,_,_,bP,_,cap2,rfl,Θ b (cA (cB r m)) p c++S,λM w=>Φ M w/\Δ M w bP (entriesOf (cA (cB r m)) m.src.toNat).ζ,hst,e4 y,λw G y=>?_⟩;refine a2S y (Po hao (hao.fit hro hs3)) g1 g2 hK λgC w y mm=>⟨_,_,_,_,none,_,0,gC,_,1,rfl,Θ b (cA (cB r m)) p c++S,λM w=>Φ M w/\Δ M w gC [entriesOf (cA (cB r m)) m.src.toNat],δ,y,λw G y=>mm w G y⟩
  .have hle:=Λ hle;rw [e2] at hle;have hle:¬ max (r.Ω m.src.toNat) m.index.toNat+1<=r.log.length:=by
    have:(cB r m).log=r.log:=rfl;rw [this] at hle;omega
   rw [if_neg hle] at hK;exact hK.zero y.left
abbrev vR:List Value:=[.bool false,.int .i64 0,.int .i64 0,.int .i64 0,.slice none 0 0,.slice none 0 0]
def lU(r:aG)(data:ByteArray):aG:={ r with log:=r.log++[⟨r.term,data⟩] }
theorem yx{r data}(h:r.role≠2):aq r data=(r,0,24,er):=by unfold aq;rw [if_pos h]
theorem Ay{r data}(h:¬ r.role≠2)(h2:2000<(data.size:Int)):aq r data=(r,0,1,er):=by unfold aq;rw [if_neg h,if_pos h2]
theorem Az{r data}(h:¬ r.role≠2)(h2:¬ 2000<(data.size:Int))(h3:r.log.length=4000):aq r data=(r,0,6,er):=by unfold aq;rw [if_neg h,if_neg h2,if_pos h3]
theorem yy{r data}(h:¬ r.role≠2)(h2:¬ 2000<(data.size:Int))(h3:¬ r.log.length=4000):
  aq r data=(lU r data,((r.log.length+1:Nat):Int),0,⟨false,0,0,((r.log.length+1:Nat):Int),[⟨r.term,data⟩],bT (lU r data)⟩):=by unfold aq;rw [if_neg h,if_neg h2,if_neg h3];rfl
theorem aQ8{l t x}(h:nc l t)(h1:1<=x.term)(h2:x.term<=t)(h3:x.data.size<=2000)(h4:∀ U∈l,U.term<=x.term):nc (l++[x]) t:=by
 refine ⟨λU hy=>?_,λU hy=>?_,λU hy=>?_,λi j hij hj hi=>?_⟩
 .rcases List.mem_append.1 hy with hy|hy
  .exact h.lo U hy
  .rw [List.mem_singleton.1 hy];exact h1
 .rcases List.mem_append.1 hy with hy|hy
  .exact h.hi U hy
  .rw [List.mem_singleton.1 hy];exact h2
 .rcases List.mem_append.1 hy with hy|hy
  .exact h.data U hy
  .rw [List.mem_singleton.1 hy];exact h3
 .rw [List.length_append,List.length_singleton] at hj hi;by_cases hjl:j<l.length
  .rw [List.getElem_append_left (by omega),List.getElem_append_left hjl];exact h.iq i j hij hjl (by omega)
  .have hj':j=l.length:=by omega
   subst hj';rw [List.getElem_append_right (Nat.le_refl _)];simp only [Nat.sub_self,List.getElem_cons_zero];by_cases rZ:i<l.length
   .rw [List.getElem_append_left rZ];exact h4 _ (List.getElem_mem rZ)
   .have:i=l.length:=by omega
    subst this;rw [List.getElem_append_right (Nat.le_refl _)];simp
theorem a8u{r data}(h:r.bA)(hr:r.role=2)(ht:1<=r.term)(h2:¬ 2000<(data.size:Int))(h3:¬ r.log.length=4000):(lU r data).bA:=by
 have hl:=h.len;have hlen:(lU r data).log.length=r.log.length+1:=by simp [lU]
 refine ⟨h.id,h.jn,h.gf,h.sJ,h.sK,?_,by rw [hlen];omega,h.role,by rw [hlen];have:=h.υ;show r.υ<=_;omega,λ_ i=>?_,λi=>?_⟩
 .exact aQ8 h.log ht (Int.le_refl _) (by simp only;omega) h.log.hi
 .have:=h.next hr i;rw [hlen];show 1<=r.next i/\r.next i<=r.log.length+1+1/\r.Ω i<=r.log.length+1;omega
 .exact h.bound i
set_option maxHeartbeats 2000000 in
theorem aFY{W w S}{Φ:θ}[O Φ]{b r p c}(y:Ctx W w (Θ b r p c++S) Φ)(hr:r.bA)(ht:r.role=2->1<=r.term)(data){K}(hK:pX W S Φ b (aq r data).1 (aq r data).2.2.2 λv w=>K (.returned (.tuple #[.int .i64 (aq r data).2.1,.int .i64 (aq r data).2.2.1,v])) w):Γ F.YQ #[ε b 0,.string data] w K:=by
 have hlen:=hr.len;refine ak (aDx b 0 data (J:=K∘.returned) y ?_);refine λk0 w G y=>⟨r.role,y.get 1 rfl rfl,γ.intro (λh=>λw G y=>⟨y.can 0 rfl (by simp),λw' hw'=>?_⟩) (λh=>γ.intro (λh2=>λw G y=>⟨y.can 0 rfl (by simp),λw' hw'=>?_⟩) (λh2=>λw G y=>⟨p,r.log.length,c,y.get 1 rfl rfl,γ.intro (λh3=>λw G y=>⟨y.can 0 rfl (by simp),λw' hw'=>?_⟩) (λh3=>λw G y=>⟨r.term,y.get 1 rfl rfl,λ_=>?_⟩)⟩))⟩
 .rw [yx (aN h)] at hK;have bO:Ctx W w' (.blk k0 vR 70 :: (Θ b r p c++S)++G) Φ:=y.pO 0 hw' rfl;exact ⟨_,Φ,δ,bO,λw G y=>⟨_,_,_,_,none,_,0,none,_,0,y.oW 0 rfl,λw G y=>hK.zero y.left.drop1⟩⟩
 .rw [Ay (Λ h) (aN h2)] at hK;have bO:Ctx W w' (.blk k0 vR 70 :: (Θ b r p c++S)++G) Φ:=y.pO 0 hw' rfl;exact ⟨_,Φ,δ,bO,λw G y=>⟨_,_,_,_,none,_,0,none,_,0,y.oW 0 rfl,λw G y=>hK.zero y.left.drop1⟩⟩
 .rw [Az (Λ h) (Λ h2) (by have:=aN h3;omega)] at hK;have bO:Ctx W w' (.blk k0 vR 70 :: (Θ b r p c++S)++G) Φ:=y.pO 0 hw' rfl;exact ⟨_,Φ,δ,bO,λw G y=>⟨_,_,_,_,none,_,0,none,_,0,y.oW 0 rfl,λw G y=>hK.zero y.left.drop1⟩⟩
 have h:=Λ h;have h2:=Λ h2;have Ld:¬ r.log.length=4000:=λe=>(Λ h3) (by omega);have cI:r.role=2:=Decidable.not_not.1 h;rw [yy h h2 Ld] at hK;have Vq:=a8u hr cI (ht cI) h2 Ld;have hpl:(lU r data).log.length=r.log.length+1:=by simp [lU]
 refine ⟨[.blk b (r.cells p c) 112],λ_ _=>True,δ,λw G y=>(y.weak λ_ _ _=>trivial).sub (List.Sublist.cons _ (List.Sublist.cons_cons _ (List.Sublist.cons _ (List.sublist_append_right _ _)))),p,r.log.length,c,λw G y=>⟨p,r.log.length,c,y.get 0 rfl rfl,rfl⟩,λk1=>⟨λw G y=>(y.weak λ_ _ _=>trivial).sub (List.Sublist.cons _ (List.Sublist.cons _ (List.Sublist.cons_cons _ (List.Sublist.cons _ (List.sublist_append_right _ _))))),λw G y=>?_⟩⟩
 have bO:Ctx W w (.blk k1 [.int .i64 r.term,.string data] 76 :: .buf p r.log.length c (dZ r.log) 76 2 :: ([.blk k0 vR 70,.blk b (r.cells p c) 112]++(S++G))) Φ :=
  y.perm (List.Perm.cons _ (List.perm_middle (l₁:=[Own.blk k0 vR 70,Own.blk b (r.cells p c) 112])))
 obtain ⟨p',cap',w',hrun,_,p5⟩:=Ctx.yM (P:=prog) (ts:=43) (ty:=43) (kb:=#[false,false]) (size:=2) (bytes:=24) bO (by kernel_rfl) (by omega) rfl rfl (by omega) (by omega);refine ⟨p',r.log.length+1,cap',w',hrun,.buf p' (r.log.length+1) cap' (dZ r.log++[Value.int .i64 r.term,Value.string data]) 76 2 :: .blk k0 vR 70 :: .blk b (r.cells p c) 112 :: S,Φ,δ,p5,λw G y=>(y.weak λ_ _ _=>trivial).sub (List.Sublist.cons _ (List.Sublist.cons _ (List.Sublist.cons_cons _ (List.sublist_append_right _ _)))),λw G y=>⟨y.can 2 rfl (by simp),λw' hw'=>?_⟩⟩
 have hc:(r.cells p c).set 3 (.slice p' (r.log.length+1) cap')=(lU r data).cells p' cap':=by simp [aG.cells,lU]
 have hb:dZ r.log++[.int .i64 r.term,.string data]=dZ (lU r data).log:=by
  show _=dZ (r.log++[⟨r.term,data⟩]);rw [Rb];rfl
 have bO:Ctx W w' (Θ b (lU r data) p' cap'++.blk k0 vR 70 :: S++G) Φ:=by
  have h1:Ctx W w' (.buf p' (r.log.length+1) cap' (dZ r.log++[.int .i64 r.term,.string data]) 76 2 :: .blk k0 vR 70 :: .blk b ((r.cells p c).set 3 (.slice p' (r.log.length+1) cap')) 112 :: S++G) Φ:=y.put 2 hw' rfl;rw [hc,hb,<-hpl] at h1;exact h1.perm (List.perm_middle (l₁:=[Own.buf p' (lU r data).log.length cap' (dZ (lU r data).log) 76 2,Own.blk k0 vR 70]))
 generalize gx:lU r data=r1 at *;have hfit:∀ i,i<3->Fit r1 i:=λi hi=>Vq.fit (by rw [<-gx];exact cI) hi;have hst:∀ q,O (λM w=>Φ M w/\Δ M w q (bT r1)):=λq=>δ;have hal:(bT r1).length=2:=by unfold bT;rw [List.length_map,Fc]
 have tail:∀ (k:Nat) (q:Option Addr) (cap:Nat),(bT r1).length<=cap->cap<=maxLen->∀ (w:World) (G:List Own),Ctx W w (.blk k [.int .i64 r.term,.string data] 76 :: (Θ b r1 p' cap'++.blk k0 vR 70 :: S)++G) (λM w=>Φ M w/\Δ M w q (bT r1)) ->
   au w k0 0 6/\∀ w',w'=w.setCells k0 0 [.bool false,.int .i64 0,.int .i64 0,.int .i64 (r1.log.length:Nat),.slice (some (Addr.mk k 0 none)) 1 1,.slice q (bT r1).length cap] ->
    ∃ (R:List Own) (η:θ),O η/\Ctx W w' (R++G) η/\(∀ (w:World) (F':List Own),Ctx W w (R++F') η->Ctx W w ([.blk b (r1.cells p' cap') 112]++F') (λ_ _=>True)) /\
     ∀ (w:World) (F':List Own),Ctx W w (R++F') η->∃ (c1:Bool) (n1 n2 cN:Int) (p1:Option Addr) (k1 k2:Nat) (p2:Option Addr) (b8 cQ:Nat),bS w k0 0 [.bool c1,.int .i64 n1,.int .i64 n2,.int .i64 cN,.slice p1 k1 k2,.slice p2 b8 cQ] /\
      ∀ (w:World) (F':List Own),Ctx W w (R++F') η->K (.returned (.tuple #[.int .i64 (r1.log.length:Nat),.int .i64 0,.agg #[.bool c1,.int .i64 n1,.int .i64 n2,.int .i64 cN,.slice p1 k1 k2,.slice p2 b8 cQ]])) w:=by
  intro k q cap hcap hmax w G y;refine ⟨y.can 3 rfl (by simp),λw' hw'=>?_⟩;have ep:=y.pO 3 hw' rfl;refine ⟨.blk k [.int .i64 r.term,.string data] 76 :: (Θ b r1 p' cap'++.blk k0 [.bool false,.int .i64 0,.int .i64 0,.int .i64 (r1.log.length:Nat),.slice (some (Addr.mk k 0 none)) 1 1,.slice q (bT r1).length cap] 70 :: S),_,hst q,ep,λw G y=>(y.weak λ_ _ _=>trivial).sub (List.Sublist.cons _ (List.Sublist.cons_cons _ (List.Sublist.cons _ (List.Sublist.cons _ (List.sublist_append_right _ _))))),λw G y=>⟨_,_,_,_,_,_,_,_,_,_,y.oW 3 rfl,λw G y=>?_⟩⟩
  have Hy:((⟨r.term,data⟩:aS)).bA:=⟨by have:=hr.jn;have:=hr.gf;show κ r.term;unfold κ;omega,by show data.size<=maxLen;unfold maxLen;omega⟩;have:=hst q;obtain ⟨lQ,hs⟩:=y.left.LJ (α:=aS) (l:=[⟨r.term,data⟩]) (dA.one (a9U Hy));have EX:=(front (lQ.add (Ψ:=λM w=>Δ M w (some ⟨k,0,none⟩) [(⟨r.term,data⟩:aS)]) hs)).drop1;have:=hK p' cap' (some ⟨k,0,none⟩) 1 q cap w (by simp) (by simp [maxLen]) hcap hmax (EX.weak λM w h=>⟨h.1.1,h.2,h.1.2⟩)
  rw [hpl];exact this
 refine ⟨_,Φ,δ,bO,[.blk b (r1.cells p' cap') 112],λ_ _=>True,δ,λw G y=>(y.weak λ_ _ _=>trivial).sub (List.Sublist.cons_cons _ (List.Sublist.cons _ (List.Sublist.cons _ (List.sublist_append_right _ _)))),p',r1.log.length,cap',λw G y=>⟨p',r1.log.length,cap',y.get 0 rfl rfl,rfl⟩,p',r1.log.length,cap',λw G y=>⟨p',r1.log.length,cap',y.get 0 rfl rfl,rfl⟩,⟨λk2=>⟨λw G y=>(y.weak λ_ _ _=>trivial).sub (List.Sublist.cons _ (List.Sublist.cons_cons _ (List.Sublist.cons _ (List.Sublist.cons _ (List.sublist_append_right _ _))))),λw G y=>?_,trivial⟩,λw G y=>?_,trivial⟩⟩
 .have Tt:Ctx W w (.blk k2 [.int .i64 r.term,.string data] 76 :: (Θ b r1 p' cap'++(.blk k0 vR 70 :: (S++G)))) Φ:=y.re (by simp);refine PE (mid Tt) Vq hfit λq cap w g1 g2 y=>⟨q,_,cap,rfl,.blk k2 [.int .i64 r.term,.string data] 76 :: (Θ b r1 p' cap'++.blk k0 vR 70 :: S),_,hst q,?_,λw G y=>(y.weak λ_ _ _=>trivial).sub (List.Sublist.cons _ (List.Sublist.cons_cons _ (List.Sublist.cons _ (List.Sublist.cons _ (List.sublist_append_right _ _))))),λw G y=>tail k2 q cap g1 g2 w G y,trivial⟩
  have:=hst q;exact (front y).re (by simp)
 .refine PE (cZ y) Vq hfit λq cap w g1 g2 y=>⟨q,_,cap,rfl,Θ b r1 p' cap'++.blk k0 vR 70 :: S,_,hst q,e4 y,λw G y=>(y.weak λ_ _ _=>trivial).sub (List.Sublist.cons_cons _ (List.Sublist.cons _ (List.Sublist.cons _ (List.sublist_append_right _ _)))),λk2=>⟨λw G y=>(y.weak λ_ _ _=>trivial).sub (List.Sublist.cons _ (List.Sublist.cons_cons _ (List.Sublist.cons _ (List.Sublist.cons _ (List.sublist_append_right _ _))))),λw G y=>tail k2 q cap g1 g2 w G y,trivial⟩,trivial⟩
theorem KF:∀ a b:List aS,agree a b<=b.length
 | [],b=>by cases b<;>simp [agree]
 | x :: a,[]=>by simp [agree]
 | x :: a,U :: b=>by
  unfold agree;split
  .have:=KF a b;simp only [List.length_cons];omega
  .simp
theorem KG:∀ a b:List aS,agree a b<=a.length
 | [],b=>by cases b<;>simp [agree]
 | x :: a,[]=>by simp [agree]
 | x :: a,U :: b=>by
  unfold agree;split
  .have:=KG a b;simp only [List.length_cons];omega
  .simp
theorem a2Q{l rs:List aS}{n j}(hj:j<rs.length):agree (l.drop (n+j)) (rs.drop j)=if (decide (n+j<l.length)&&decide (bB l (n+j+1)=rs[j].term))=true then agree (l.drop (n+j+1)) (rs.drop (j+1))+1 else 0:=by
 rw [List.drop_eq_getElem_cons hj];by_cases h:n+j<l.length
 .rw [List.drop_eq_getElem_cons h,decide_eq_true h,Bool.true_and,BE h];by_cases ht:l[n+j].term=rs[j].term
  .rw [if_pos (decide_eq_true ht)];simp [agree,ht]
  .rw [if_neg (by simp [ht])];simp [agree,ht]
 .rw [decide_eq_false h,Bool.false_and,if_neg (by simp),List.drop_eq_nil_of_le (by omega)];rfl
theorem EK{r m}(h:m.term<r.term):cM r m=(r,gL [lA r 3 m.src]):=by unfold cM;rw [if_pos h]
theorem EI{r m}(h:¬ m.term<r.term)(h2:r.role=2):cM r m=(r,er):=by unfold cM;rw [if_neg h,if_pos h2]
def l6(r:aG):aG:={ r with role:=0 }
def Cj(r:aG)(m:aH):aH:=⟨3,r.id,m.src,r.term,min (r.log.length:Int) (m.index - 1),0,0,false,[]⟩
theorem EH{r m}(h:¬ m.term<r.term)(h2:¬ r.role=2)(h3:(decide ((r.log.length:Int)<m.index)||decide (bB r.log m.index.toNat≠m.prev))=true):cM r m=(l6 r,gL [Cj r m]):=by unfold cM;rw [if_neg h,if_neg h2];simp only;rw [if_pos h3];rfl
def yN(r:aG)(m:aH):Nat:=max r.υ (min m.υ.toNat (m.index.toNat+m.ζ.length))
def cS(r:aG)(m:aH):Nat:=agree (r.log.drop m.index.toNat) m.ζ
def Yl(r:aG)(m:aH):aG:={ r with role:=0,υ:=yN r m }
def pe(r:aG)(m:aH)(k:Nat):aG:={ r with role:=0,log:=r.log.take (m.index.toNat+k)++m.ζ.drop k,υ:=yN r m }
theorem EL{r m}(h:¬ m.term<r.term)(h2:¬ r.role=2)(h3:(decide ((r.log.length:Int)<m.index)||decide (bB r.log m.index.toNat≠m.prev))=false)(h4:¬ cS r m<m.ζ.length):cM r m=(Yl r m,gL [l5 r m]):=by
 unfold cM;rw [if_neg h,if_neg h2];simp only;rw [if_neg (by rw [h3];simp),if_neg (show ¬ agree (r.log.drop m.index.toNat) m.ζ<m.ζ.length from h4)];rfl
theorem EG{r m}(h:¬ m.term<r.term)(h2:¬ r.role=2)(h3:(decide ((r.log.length:Int)<m.index)||decide (bB r.log m.index.toNat≠m.prev))=false)(h4:cS r m<m.ζ.length)(h5:m.index.toNat+cS r m+1<=r.υ):cM r m=(l6 r,er):=by
 unfold cM;rw [if_neg h,if_neg h2];simp only;rw [if_neg (by rw [h3];simp),if_pos (show agree (r.log.drop m.index.toNat) m.ζ<m.ζ.length from h4),if_pos (show m.index.toNat+agree (r.log.drop m.index.toNat) m.ζ+1<=r.υ from h5)];rfl
theorem EJ{r m}(h:¬ m.term<r.term)(h2:¬ r.role=2)(h3:(decide ((r.log.length:Int)<m.index)||decide (bB r.log m.index.toNat≠m.prev))=false)(h4:cS r m<m.ζ.length)(h5:¬ m.index.toNat+cS r m+1<=r.υ):
  cM r m=(pe r m (cS r m),⟨false,0,0,((m.index.toNat+cS r m+1:Nat):Int),m.ζ.drop (cS r m),[l5 r m]⟩):=by
 unfold cM;rw [if_neg h,if_neg h2];simp only;rw [if_neg (by rw [h3];simp),if_pos (show agree (r.log.drop m.index.toNat) m.ζ<m.ζ.length from h4),if_neg (show ¬ m.index.toNat+agree (r.log.drop m.index.toNat) m.ζ+1<=r.υ from h5)];rfl
structure aH.eO(id:Nat)(m:aH):Prop where
 kind:0<=m.kind/\m.kind<=3
 to:m.to=id
 src:m.src≠id/\0<=m.src/\m.src<=2
 term:1<=m.term/\m.term<=1099511627776
 index:0<=m.index/\m.index<=4000
 prev:0<=m.prev/\m.prev<=m.term
 zero:m.index=0->m.prev=0
 υ:0<=m.υ/\m.υ<=4000
 len:m.ζ.length<=8
 fits:m.index+m.ζ.length<=4000
 sound:r7 m.ζ (max 1 m.prev) m.term=true
theorem sE{id m}:kC id m=true ↔ m.eO id:=by
 unfold kC;simp only [Bool.and_eq_true,Bool.not_eq_true',Bool.and_eq_false_iff,decide_eq_true_eq,decide_eq_false_iff_not];constructor
 .rintro ⟨⟨⟨⟨⟨⟨⟨⟨⟨⟨⟨⟨⟨⟨⟨⟨⟨h1,h2⟩,h3⟩,h4⟩,h5⟩,h6⟩,h7⟩,h8⟩,h9⟩,h10⟩,h11⟩,h12⟩,aSq⟩,aJl⟩,Lc⟩,aSr⟩,aJm⟩,h18⟩;exact ⟨⟨h1,h2⟩,h3,⟨h4,h5,h6⟩,⟨h7,h8⟩,⟨h9,h10⟩,⟨h11,h12⟩,λh=>by omega,⟨aJl,Lc⟩,by omega,aJm,h18⟩
 .intro h;obtain ⟨a1,a2⟩:=h.kind;obtain ⟨b1,b2,b3⟩:=h.src;obtain ⟨c1,c2⟩:=h.term;obtain ⟨d1,d2⟩:=h.index;obtain ⟨e1,e2⟩:=h.prev;obtain ⟨f1,f2⟩:=h.υ;have:=h.len;have:=h.zero;exact ⟨⟨⟨⟨⟨⟨⟨⟨⟨⟨⟨⟨⟨⟨⟨⟨⟨a1,a2⟩,h.to⟩,b1⟩,b2⟩,b3⟩,c1⟩,c2⟩,d1⟩,d2⟩,e1⟩,e2⟩,by omega⟩,f1⟩,f2⟩,by omega⟩,h.fits⟩,h.sound⟩
theorem aAL:∀ (l:List aS) (least most:Int),r7 l least most=true->(∀ x∈l,least<=x.term/\x.term<=most/\x.data.size<=2000)/\∀ i j,i<=j->(hj:j<l.length)->(hi:i<l.length)->l[i].term<=l[j].term
 | [],_,_,_=>⟨λx hx=>(by cases hx),λi j _ hj=>(by simp at hj)⟩
 | x :: l,least,most,h=>by
  unfold r7 at h;split at h
  .cases h
  rename_i h1;simp only [Bool.or_eq_true,decide_eq_true_eq,not_or] at h1;obtain ⟨h2,h3⟩:=aAL l x.term most h;refine ⟨λU hy=>?_,λi j hij hj hi=>?_⟩
  .rcases List.mem_cons.1 hy with rfl|hy
   .omega
   .have:=h2 U hy;omega
  .cases i with
   | zero =>
    cases j with
    | zero=>exact Int.le_refl _
    | succ j=>simp only [List.getElem_cons_zero,List.getElem_cons_succ];exact (h2 _ (List.getElem_mem _)).1
   | succ i =>
    cases j with
    | zero=>omega
    | succ j=>simp only [List.getElem_cons_succ];exact h3 i j (by omega) _ _
set_option maxHeartbeats 4000000 in
theorem a2Z{W w S}{Φ:θ}[O Φ]{b r p c}(y:Ctx W w (Θ b r p c++S) Φ)(hr:r.bA)(m)(hm:m.eO r.id)(q bW)(bp:∀ M w,Φ M w->Δ M w q m.ζ)(F4:m.ζ.length<=bW){K}(hK:pX W S Φ b (cM r m).1 (cM r m).2 λv w=>K (.returned v) w):Γ F.Rf #[ε b 0,m.v q bW] w K:=by
 have hlen:=hr.len;have hcm:=hr.υ;obtain ⟨hs1,hs2,hs3⟩:=hm.src;obtain ⟨hi1,hi2⟩:=hm.index;obtain ⟨vo,iV⟩:=hm.υ;have aT5:=hm.len;have hfit:=hm.fits;have ht0:=hr.jn;have a5h:=hr.gf;have nD:m.index=(m.index.toNat:Nat):=by omega
 have xE:Gr q m.ζ.length:=(bp _ _ y.cy).there;have aLF:∀ x∈m.ζ,x.bA:=aQ3 (bp _ _ y.cy);have hzero:(Θ b { r with role:=(0:Int) } p c)=Θ b (l6 r) p c:=rfl;refine ak (aE1 b 0 m.kind m.src m.to m.term m.index m.prev m.υ m.yes q m.ζ.length bW (J:=K∘.returned) y ?_);refine λ_ _ w G y=>R3 (cZ y) 3 m.src λw y=>⟨_,_,_,_,_,_,_,_,none,_,0,rfl,Θ b r p c++S,Φ,δ,e4 y,λk w G y=>⟨y.can 0 rfl (by simp),λw' hw'=>?_⟩⟩
 have bO:Ctx W w' (Θ b r p c++.blk k ((lA r 3 m.src).cells none 0) 104 :: S++G) Φ:=sink (y.pO 0 hw' rfl);have aKo:=FP hr (kind:=3) (to:=m.src) (index:=0) (prev:=0) (yes:=false) (by omega) (by omega) (by omega) (by omega);refine ⟨_,Φ,δ,bO,λw G y=>⟨r.term,y.get 0 rfl rfl,γ.intro (λh=>λw G y=>⟨_,_,_,_,_,_,_,_,none,_,0,y.oW 2 rfl,λw G y=>?_⟩) (λh=>λw G y=>⟨r.role,y.get 0 rfl rfl,γ.intro (λh2=>λw G y=>?_) (λh2=>λw G y=>⟨y.can 0 rfl (by simp),λw' hw'=>?_⟩)⟩)⟩⟩
 .rw [EK (aN h)] at hK;refine D5 y aKo rfl hK λq w y mm=>⟨_,_,_,_,none,_,0,q,_,1,rfl,_,_,δ,y,λw G y=>mm w G y⟩
 .rw [EI (Λ h) (aN h2)] at hK;exact hK.zero (lift y).drop1.left
 have h:=Λ h;have h2:=Λ h2;have bO:Ctx W w' (Θ b (l6 r) p c++.blk k ((lA r 3 m.src).cells none 0) 104 :: S++G) Φ:=e4 (sA (cZ y) hw' (l6 r) rfl rfl);refine ⟨_,Φ,δ,bO,λw G y=>⟨p,r.log.length,c,y.get 0 rfl rfl,bB r.log m.index.toNat,λhle w' hw=>ZJ (r:=l6 r) (Ez (cZ y)) nD ?_ hlen hw,γ.intro (λh3=>?_) (λh3=>?_)⟩⟩
 .simp only [Bool.not_eq_true',decide_eq_false_iff_not] at hle;show m.index.toNat<=r.log.length;omega
 .rw [EH h h2 h3] at hK;refine ⟨by unfold κ;omega,λw G y=>⟨p,r.log.length,c,y.get 0 rfl rfl,λw G y=>⟨y.can 2 rfl (by simp),λw' hw'=>?_⟩⟩⟩;have bO:Ctx W w' (Θ b (l6 r) p c++.blk k ((Cj r m).cells none 0) 104 :: S++G) Φ:=y.put 2 hw' rfl;refine ⟨_,Φ,δ,bO,λw G y=>⟨_,_,_,_,_,_,_,_,none,_,0,y.oW 2 rfl,λw G y=>?_⟩⟩;have hno:(Cj r m).bA:=FP hr (by omega) (by omega) (by omega) (by omega);refine D5 (r:=l6 r) y hno rfl hK λq w y mm=>⟨_,_,_,_,none,_,0,q,_,1,rfl,_,_,δ,y,λw G y=>mm w G y⟩
 have hle:m.index.toNat<=r.log.length:=by
  simp only [Bool.or_eq_false_iff,decide_eq_false_iff_not] at h3;omega
 have hao:(l5 r m).bA:=FP hr (by omega) (by omega) (by omega) (by omega);refine λ_=>fD (λM7 a0 a1 a2 a3 a4 a5 a6 a7 a8 a9 sv tm gh fr rp rn rc sp aAJ sc R' η kk=>∃ j:Nat,M7=j/\j<=m.ζ.length/\sv=false/\tm=0/\gh=0/\fr=0/\rp=none/\rn=0/\rc=0/\sp=none/\aAJ=0/\sc=0/\R'=Θ b (l6 r) p c++.blk k ((lA r 3 m.src).cells none 0) 104 :: S/\η=Φ/\kk=m.ζ.length - j/\cS r m=j+agree (r.log.drop (m.index.toNat+j)) (m.ζ.drop j))
  ⟨⟨_,Φ,_,δ,λw G y=>y,0,rfl,Nat.zero_le _,rfl,rfl,rfl,rfl,rfl,rfl,rfl,rfl,rfl,rfl,rfl,rfl,rfl,by simp [cS]⟩,?_⟩
 rintro M7 _ _ _ _ _ _ _ _ _ _ _ _ _ _ _ _ _ _ _ _ aW ψ kk _ ⟨j,rfl,hj,rfl,rfl,rfl,rfl,rfl,rfl,rfl,rfl,rfl,rfl,rfl,rfl,rfl,hag⟩;have mm:∀ (r2:aG) (p2:Option Addr) (c2:Nat) (Ψ:θ),O Ψ->r2.id=r.id->r2.term=r.term->r2.υ=r.υ->∀ (w:World) (G:List Own),Ctx W w (Θ b r2 p2 c2++.blk k ((lA r 3 m.src).cells none 0) 104 :: S++G) Ψ ->
   au w k 7 1/\∀ w',w'=w.setCell (Addr.mk k 7 none) (.bool true)->Ctx W w' (Θ b r2 p2 c2++.blk k ((⟨3,r.id,m.src,r.term,0,0,0,true,[]⟩:aH).cells none 0) 104 :: S++G) Ψ :=
  λr2 p2 c2 Ψ hst e1 e2 bI w G y=>⟨y.can 2 rfl (by simp),λw' hw'=>y.put 2 hw' rfl⟩
 have hval:m.index+(m.ζ.length:Int)=(m.index+m.ζ.length:Int):=rfl;have VN:∀ r2:aG,r2.υ=r.υ->max (r2.υ:Int) (min m.υ (m.index+(m.ζ.length:Int)))=((yN r m:Nat):Int):=λr2 e=>by rw [e];unfold yN;omega
 refine γ.intro (λhlt=>?_) (λhge=>?_)
 .have hlt:j<m.ζ.length:=by simpa using hlt
  obtain ⟨aOj,aOm,rfl⟩:=xE (by omega);refine ⟨by omega,eu aOj aOm rfl λw G y=>⟨m.ζ[j].term,m.ζ[j].data,by rw [Int.toNat_natCast];exact J3 (bp _ _ y.cy) hlt,λ_=>⟨by unfold κ;omega,by unfold κ;omega,λw G y=>⟨p,r.log.length,c,y.get 0 rfl rfl,bB r.log (m.index.toNat+j+1),λLw w' hw=>ZJ (r:=l6 r) (Ez (cZ y)) (by omega) ?_ hlen hw,γ.intro (λheq=>?_) (λhne=>?_)⟩⟩⟩⟩
  .have:=aN Lw;show m.index.toNat+j+1<=r.log.length;omega
  .refine ⟨by unfold κ;omega,_,ψ,m.ζ.length - (j+1),δ,λw G y=>y,⟨j+1,rfl,hlt,rfl,rfl,rfl,rfl,rfl,rfl,rfl,rfl,rfl,rfl,rfl,rfl,rfl,?_⟩,by omega⟩;rw [a2Q hlt,if_pos] at hag
   .rw [show m.index.toNat+(j+1)=m.index.toNat+j+1 by omega];omega
   .simp only [Bool.and_eq_true,decide_eq_true_eq] at heq ⊢;exact ⟨by omega,heq.2⟩
  .rw [a2Q hlt,if_neg] at hag
   case hnc =>
    intro h';simp only [Bool.and_eq_true,decide_eq_true_eq,Bool.and_eq_false_iff,decide_eq_false_iff_not] at hne h';rcases hne with hne|hne
    .omega
    .exact hne h'.2
   have hag:cS r m=j:=by omega
   refine λw G y=>⟨r.υ,y.get 0 rfl rfl,γ.intro (λh5=>λw G y=>?_) (λh5=>?_)⟩
   .rw [EG h h2 h3 (by omega) (by have:=aN h5;omega)] at hK;exact hK.zero (lift y).drop1.left
   have h5:=Λ h5;rw [EJ h h2 h3 (by omega) (by omega),hag] at hK;have htl:(r.log.take (m.index.toNat+j)).length=m.index.toNat+j:=by
    rw [List.length_take];have:=KG (r.log.drop m.index.toNat) m.ζ;rw [List.length_drop] at this;unfold cS at hag;omega
   have hjl:m.index.toNat+j<=r.log.length:=by rw [List.length_take] at htl;omega
   refine ⟨by omega,λw G y=>?_⟩;rw [Int.toNat_natCast,show m.ζ.length - j=(m.ζ.drop j).length by rw [List.length_drop]];refine Jd y (λM w h=>a2L (bp M w h) j F4) (by rw [List.length_drop];omega) λrp Y9 w y=>?_;obtain ⟨_,aLC,aLD⟩:=y.uS 0 rfl;obtain ⟨ep,hs,_⟩:=Ctx.freeze (α:=aS) y (Ik λx hx=>aLF x (List.mem_of_mem_drop hx));have hst:O (λM w=>ψ M w/\Δ M w rp (m.ζ.drop j)):=δ;refine ⟨rp,_,Y9,rfl,_,λM w=>ψ M w/\Δ M w rp (m.ζ.drop j),hst,ep.add hs,[.blk b ((l6 r).cells p c) 112],λ_ _=>True,δ,λw G y=>(y.weak λ_ _ _=>trivial).sub (List.Sublist.cons_cons _ (List.Sublist.cons _ (List.Sublist.cons _ (List.sublist_append_right _ _)))),by unfold κ;omega,p,r.log.length,c,λw G y=>⟨p,r.log.length,c,y.get 0 rfl rfl,rfl⟩,?_,λw G y=>?_⟩
   .have hc:=(y.uS 2 rfl).2.1;have hc:r.log.length<=c:=hc;omega
   have hcap:r.log.length<=c:=(y.uS 1 rfl).2.1;have hlk:(m.index+(j:Int)+1 - 1).toNat=m.index.toNat+j:=by omega
   have hsp:eB p 2 0 c=p:=by
    unfold eB;split
    .rfl
    .cases p with
     | none=>rfl
     | some a=>simp [Addr.add]
   rw [hlk,hsp,<-htl];have lQ:Ctx W w (.blk k ((lA r 3 m.src).cells none 0) 104 :: S++G) (lZ W (Θ b (l6 r) p c) (λM w=>ψ M w/\Δ M w rp (m.ζ.drop j))):=y.aGk;refine Jd lQ (λM w h=>Δ.take (Ws h (n:=r.log.length) (c:=c) (List.mem_cons_of_mem _ List.mem_cons_self) hr.ζ) _) (by show (r.log.take _).length<_;rw [htl];omega) λnp XB w y=>?_;have EX:Ctx W w (Θ b (l6 r) p c++(.buf np (r.log.take (m.index.toNat+j)).length XB (dZ (r.log.take (m.index.toNat+j))) 76 2 :: .blk k ((lA r 3 m.src).cells none 0) 104 :: S)++G) (λM w=>ψ M w/\Δ M w rp (m.ζ.drop j)):=Ctx.aQu (T:=.buf np (r.log.take (m.index.toNat+j)).length XB (dZ (r.log.take (m.index.toNat+j))) 76 2 :: .blk k ((lA r 3 m.src).cells none 0) 104 :: S) y
   refine ⟨np,_,XB,rfl,_,_,hst,EX,λw G y=>(y.weak λ_ _ _=>trivial).sub (List.Sublist.cons_cons _ (List.Sublist.cons _ (List.Sublist.cons _ (List.Sublist.cons _ (List.sublist_append_right _ _))))),λw G y=>?_⟩;have Tt:=lift (Q:=Θ b (l6 r) p c) y;obtain ⟨p',cap',w',news,hrun,_,p5⟩:=Ctx.TZ (P:=prog) (α:=aS) (ts:=43) (ty:=43) (kb:=#[false,false]) (bytes:=24) (c2:=Y9) Tt (by kernel_rfl) a9H (λM w h=>h.2) (by rw [List.length_drop];omega) (by rw [htl,List.length_drop];omega) (by omega)
   have hnews:=(a48 p5.cy.2).1;subst hnews;have pF:(r.log.take (m.index.toNat+j)).length+(m.ζ.drop j).length=(pe r m j).log.length:=by show _=(r.log.take (m.index.toNat+j)++m.ζ.drop j).length;rw [List.length_append]
   have hnc:dZ (r.log.take (m.index.toNat+j))++dZ (m.ζ.drop j)=dZ (pe r m j).log:=by rw [<-Rb];rfl
   rw [pF] at hrun;rw [pF,hnc] at p5;have aHd:Ctx W w' (.buf p' (pe r m j).log.length cap' (dZ (pe r m j).log) 76 2 :: (Θ b (l6 r) p c++(.blk k ((lA r 3 m.src).cells none 0) 104 :: S))++G) (λM w=>ψ M w/\Δ M w rp (m.ζ.drop j)):=p5.weak λM w h=>h.1;refine ⟨p',_,cap',w',hrun,_,_,hst,aHd,λw G y=>(y.weak λ_ _ _=>trivial).sub (List.Sublist.cons _ (List.Sublist.cons_cons _ (List.Sublist.cons _ (List.Sublist.cons _ (List.sublist_append_right _ _))))),λw G y=>⟨y.can 1 rfl (by simp),λw' hw'=>?_⟩⟩
   have hcells:((l6 r).cells p c).set 3 (.slice p' (pe r m j).log.length cap')=({ pe r m j with υ:=r.υ }:aG).cells p' cap':=by simp [aG.cells,pe,l6]
   have aHe:Ctx W w' (Θ b { pe r m j with υ:=r.υ } p' cap'++.blk k ((lA r 3 m.src).cells none 0) 104 :: S++G) (λM w=>ψ M w/\Δ M w rp (m.ζ.drop j)):=by
    have h1:Ctx W w' (.buf p' (pe r m j).log.length cap' (dZ (pe r m j).log) 76 2 :: .blk b (((l6 r).cells p c).set 3 (.slice p' (pe r m j).log.length cap')) 112 :: .buf p r.log.length c (dZ r.log) 76 2 :: (.blk k ((lA r 3 m.src).cells none 0) 104 :: S++G)) (λM w=>ψ M w/\Δ M w rp (m.ζ.drop j)):=y.put 1 hw' rfl;rw [hcells] at h1;exact (h1.sub (List.Sublist.cons_cons _ (List.Sublist.cons_cons _ (List.sublist_cons_self _ _)))).swap
   refine ⟨_,_,hst,aHe,[],λ_ _=>True,δ,λw G y=>(y.weak λ_ _ _=>trivial).right,by unfold κ;omega,λw G y=>?_⟩;obtain ⟨g1,g2⟩:=mm { pe r m j with υ:=r.υ } p' cap' _ hst rfl rfl rfl w G y;refine ⟨g1,λw' hw'=>⟨_,_,hst,g2 w' hw',λw G y=>(y.weak λ_ _ _=>trivial).right,λw G y=>⟨y.can 2 rfl (by simp),λw' hw'=>?_⟩⟩⟩;have Tu:Ctx W w' (Θ b { pe r m j with υ:=r.υ } p' cap'++.blk k ((l5 r m).cells none 0) 104 :: S++G) (λM w=>ψ M w/\Δ M w rp (m.ζ.drop j)):=y.put 2 hw' rfl
   refine ⟨_,_,hst,Tu,λw G y=>⟨_,y.get 2 rfl rfl,λw G y=>⟨_,y.get 0 rfl rfl,λw G y=>⟨y.can 0 rfl (by simp),λw' hw'=>?_⟩⟩⟩⟩;rw [show max (r.υ:Int) (min m.υ (l5 r m).index)=((yN r m:Nat):Int) from VN { pe r m j with υ:=r.υ } rfl] at hw';have Tv:Ctx W w' (Θ b (pe r m j) p' cap'++.blk k ((l5 r m).cells none 0) 104 :: S++G) (λM w=>ψ M w/\Δ M w rp (m.ζ.drop j)):=e4 (sA (cZ y) hw' (pe r m j) rfl rfl);refine ⟨_,_,hst,Tv,λw G y=>⟨_,_,_,_,_,_,_,_,none,_,0,y.oW 2 rfl,λk2 w G y=>?_⟩⟩
   obtain ⟨Ts,hs2⟩:=y.LJ (dA.one (NJ (x:=l5 r m) hao (Nat.le_refl _) (by simp [maxLen]) Δ.nil));have aHc:=(lift (Ts.add (Ψ:=λM w=>Δ M w (some ⟨k2,0,none⟩) [l5 r m]) hs2)).drop1.left;have hkk:=hK p' cap' rp Y9 (some ⟨k2,0,none⟩) 1 w aLC aLD (by simp) (by simp [maxLen]) (aHc.weak λM w h=>⟨h.1.1,h.1.2,h.2⟩);rw [show m.index+(j:Int)+1=((m.index.toNat+j+1:Nat):Int) by omega];exact hkk
 .have hge:j=m.ζ.length:=Nat.le_antisymm hj (by simpa using hge);subst hge;rw [List.drop_length] at hag;have hag:¬ cS r m<m.ζ.length:=by omega
  rw [EL h h2 h3 hag] at hK;refine ⟨[],λ_ _=>True,δ,λw G y=>(y.weak λ_ _ _=>trivial).right,by unfold κ;omega,λw G y=>?_⟩;obtain ⟨g1,g2⟩:=mm (l6 r) p c ψ δ rfl rfl rfl w G y;refine ⟨g1,λw' hw'=>⟨_,ψ,δ,g2 w' hw',λw G y=>(y.weak λ_ _ _=>trivial).right,λw G y=>⟨y.can 2 rfl (by simp),λw' hw'=>?_⟩⟩⟩;have Tu:Ctx W w' (Θ b (l6 r) p c++.blk k ((l5 r m).cells none 0) 104 :: S++G) ψ:=y.put 2 hw' rfl;refine ⟨_,ψ,δ,Tu,λw G y=>⟨_,y.get 2 rfl rfl,λw G y=>⟨_,y.get 0 rfl rfl,λw G y=>⟨y.can 0 rfl (by simp),λw' hw'=>?_⟩⟩⟩⟩
  rw [show max ((l6 r).υ:Int) (min m.υ (l5 r m).index)=((yN r m:Nat):Int) from VN (l6 r) rfl] at hw';have Tv:Ctx W w' (Θ b (Yl r m) p c++.blk k ((l5 r m).cells none 0) 104 :: S++G) ψ:=e4 (sA (cZ y) hw' (Yl r m) rfl rfl);refine ⟨_,ψ,δ,Tv,λw G y=>⟨_,_,_,_,_,_,_,_,none,_,0,y.oW 2 rfl,λk2 w G y=>?_⟩⟩;obtain ⟨Ts,hs2⟩:=y.LJ (dA.one (NJ (x:=l5 r m) hao (Nat.le_refl _) (by simp [maxLen]) Δ.nil));exact hK.sent (by simp) (by simp [maxLen]) (lift (Ts.add (Ψ:=λM w=>Δ M w (some ⟨k2,0,none⟩) [l5 r m]) hs2)).drop1.left
def mD(r:aG)(x:aG × fN):aG × fN:=if (decide (x.1.term=r.term)&&decide (x.1.ρ=r.ρ))=true then x else (x.1,{ x.2 with save:=true,term:=x.1.term,ρ:=x.1.ρ })
def jr(r:aG)(m:aH):aG:={ r with term:=m.term,ρ := -1,role:=0 }
def cv(r1:aG)(m:aH):aG × fN:=if m.kind=0 then cV r1 m else if m.kind=1 then eC r1 m else if m.kind=2 then cM r1 m else dQ r1 m
theorem uj{r m}(h:kC r.id m=false):aU r m=(r,er):=by unfold aU;rw [if_pos h]
theorem xA{r m}(h:kC r.id m=true):aU r m=mD r (cv (if r.term<m.term then jr r m else r) m):=by unfold aU;rw [if_neg (by rw [h];simp)];rfl
theorem aBG{r}(h:r.bA)(m)(hm:m.eO r.id)(ht:r.term<m.term):(jr r m).bA:=by
 have h1:=h.jn;have h2:=hm.term.2;refine ⟨h.id,by show 0<=m.term;omega,h2,by show (-1:Int) <= -1;omega,by show (-1:Int)<=2;omega,⟨h.log.lo,λx hx=>?_,h.log.data,h.log.iq⟩,h.len,.inl rfl,h.υ,λhr=>?_,h.bound⟩
 .have:=h.log.hi x hx;show x.term<=m.term;omega
 .cases (show (0:Int)=2 from hr)
theorem aNb:r0 prog 67=true:=by kernel_rfl
theorem CE{W S G}{Φ:θ}[O Φ]{b r x J}(hK:pX W S Φ b (mD r x).1 (mD r x).2 J):
  pX W (S++G) Φ b x.1 x.2 (λv w=>∃ (c:Bool) (n1 n2 cN:Int) (p1:Option Addr) (k1 k2:Nat) (p2:Option Addr) (b8 cQ:Nat),Ending.returned v=.returned (.agg #[.bool c,.int .i64 n1,.int .i64 n2,.int .i64 cN,.slice p1 k1 k2,.slice p2 b8 cQ]) /\
   ∃ (R:List Own) (η:θ),O η/\Ctx W w (R++G) η/\∀ (w:World) (F:List Own),Ctx W w (R++F) η->∃ (a1 a2:Int),bS w b (0+1) [.int .i64 a1,.int .i64 a2]/\r0 prog 67=true /\
    γ (!(decide (a1=r.term)&&(decide (a2=r.ρ)&&true)))
     (∃ (dM:List Own) (dF:θ),O dF/\(∀ (w:World) (F:List Own),Ctx W w (R++F) η->Ctx W w (dM++F) dF)/\∃ (b1 b2:Int),(∀ (w:World) (F:List Own),Ctx W w (dM++F) dF->∃ (d1 d2:Int),bS w b (0+1) [.int .i64 d1,.int .i64 d2]/\Value.agg #[.int .i64 d1,.int .i64 d2]=Value.agg #[.int .i64 b1,.int .i64 b2]) /\
      (∀ (w:World) (F:List Own),Ctx W w (R++F) η->Ctx W w (dM++F) dF)/\(∀ (w:World) (F:List Own),Ctx W w (R++F) η->Ctx W w (dM++F) dF)/\∀ (w:World) (F:List Own),Ctx W w (R++F) η->J (.agg #[.bool true,.int .i64 b1,.int .i64 b2,.int .i64 cN,.slice p1 k1 k2,.slice p2 b8 cQ]) w)
     (∀ (w:World) (F:List Own),Ctx W w (R++F) η->J (.agg #[.bool c,.int .i64 n1,.int .i64 n2,.int .i64 cN,.slice p1 k1 k2,.slice p2 b8 cQ]) w)):=by
 obtain ⟨r',o⟩:=x;intro p' c' q1 c1 bP c2 w h1 h2 h3 h4 y;have hrow:∀ {w:World} {F:List Own},Ctx W w (Θ b r' p' c'++S++F) (zc Φ q1 o.ζ bP o.send)->bS w b (0+1) [.int .i64 r'.term,.int .i64 r'.ρ]:=λy=>y.row 0 rfl (D9 (vs:=[.int .i64 r'.term,.int .i64 r'.ρ]) rfl);refine ⟨_,_,_,_,q1,_,c1,bP,_,c2,rfl,Θ b r' p' c'++S,zc Φ q1 o.ζ bP o.send,δ,e4 y,λw F y=>⟨r'.term,r'.ρ,hrow y,aNb,γ.intro (λhd=>?_) (λhd=>?_)⟩⟩
 .have hf:mD r (r',o)=(r',{ o with save:=true,term:=r'.term,ρ:=r'.ρ }):=by
   unfold mD;rw [if_neg];intro h;simp only [Bool.and_true,Bool.not_eq_true'] at hd;rw [hd] at h;cases h
  rw [hf] at hK;exact ⟨Θ b r' p' c'++S,zc Φ q1 o.ζ bP o.send,δ,λw F y=>y,r'.term,r'.ρ,λw F y=>⟨_,_,hrow y,rfl⟩,λw F y=>y,λw F y=>y,λw F y=>hK p' c' q1 c1 bP c2 w h1 h2 h3 h4 y.left⟩
 .have hf:mD r (r',o)=(r',o):=by
   unfold mD;rw [if_pos];simpa using hd
  rw [hf] at hK;exact λw F y=>hK p' c' q1 c1 bP c2 w h1 h2 h3 h4 y.left
set_option maxHeartbeats 2000000 in
theorem aEz{W w S}{Φ:θ}[O Φ]{b r p c}(y:Ctx W w (Θ b r p c++S) Φ)(hr:r.bA)(m)(hmo:m.bA)(q bW)(bp:∀ M w,Φ M w->Δ M w q m.ζ)(F4:m.ζ.length<=bW)(Vt:bW<=maxLen){K}(hK:pX W S Φ b (aU r m).1 (aU r m).2 λv w=>K (.returned v) w):Γ F.YO #[ε b 0,m.v q bW] w K:=by
 refine ak (aDv b 0 m.kind m.src m.to m.term m.index m.prev m.υ m.yes q m.ζ.length bW (J:=K∘.returned) y ?_);refine λ_ _ w G y=>aPK (cZ y) m q bW bp (Nat.le_trans F4 (Nat.le_trans Vt (by decide))) hmo.index λw y=>⟨_,rfl,Θ b r p c++S,Φ,δ,e4 y,γ.intro (λh=>λw G y=>?_) (λh=>λw G y=>⟨r.term,r.ρ,y.row 0 rfl (D9 (vs:=[.int .i64 r.term,.int .i64 r.ρ]) rfl),λ_ w G y=>⟨r.term,y.get 0 rfl rfl,γ.intro (λht=>λw G y=>⟨y.can 0 rfl (by simp),λw' hw'=>?_⟩) (λht=>?_)⟩⟩)⟩
 .rw [uj (by simpa using h)] at hK;exact hK.zero y.left
 all_goals
  have hy:kC r.id m=true:=by simpa using h
  have hmr:=sE.1 hy;obtain ⟨hs1,hs2,hs3⟩:=hmr.src;obtain ⟨lS,hk2⟩:=hmr.kind;obtain ⟨hi1,hi2⟩:=hmr.index;rw [xA hy] at hK
 .have ht:=aN ht;rw [if_pos ht] at hK;have hu:=aBG hr m hmr ht;have bO:=e4 (Y2 (cZ y) hw' { r with term:=m.term,ρ := -1 } rfl rfl);refine ⟨_,Φ,δ,bO,λw G y=>⟨y.can 0 rfl (by simp),λw' hw'=>?_⟩⟩;have bO:Ctx W w' (Θ b (jr r m) p c++S++G) Φ:=e4 (sA (cZ y) hw' (jr r m) rfl rfl);refine ⟨_,Φ,δ,bO,λ_=>γ.intro (λk0=>λw G y=>?_) (λk0=>γ.intro (λk1=>λw G y=>?_) (λk1=>γ.intro (λk2=>λw G y=>?_) (λk2=>γ.intro (λb8=>λw G y=>?_) (λb8=>?_))))⟩
  .rw [show cv (jr r m) m=cV (jr r m) m by unfold cv;rw [if_pos (aN k0)]] at hK;exact aBQ (cZ y) hu m q bW hs2 hs3 (CE hK)
  .rw [show cv (jr r m) m=eC (jr r m) m by unfold cv;rw [if_neg (Λ k0),if_pos (aN k1)]] at hK;exact aBR (cZ y) hu m q bW hs2 hs3 (CE hK)
  .rw [show cv (jr r m) m=cM (jr r m) m by unfold cv;rw [if_neg (Λ k0),if_neg (Λ k1),if_pos (aN k2)]] at hK;exact a2Z (cZ y) hu m hmr q bW bp F4 (CE hK)
  .rw [show cv (jr r m) m=dQ (jr r m) m by unfold cv;rw [if_neg (Λ k0),if_neg (Λ k1),if_neg (Λ k2)]] at hK;exact a2d (cZ y) hu m q bW hs2 hs3 hi1 hi2 (CE hK)
  .exfalso;have:=Λ k0;have:=Λ k1;have:=Λ k2;have:=Λ b8;omega
 .have ht:=Λ ht;rw [if_neg ht] at hK;refine λ_=>γ.intro (λk0=>λw G y=>?_) (λk0=>γ.intro (λk1=>λw G y=>?_) (λk1=>γ.intro (λk2=>λw G y=>?_) (λk2=>γ.intro (λb8=>λw G y=>?_) (λb8=>?_))))
  .rw [show cv r m=cV r m by unfold cv;rw [if_pos (aN k0)]] at hK;exact aBQ (cZ y) hr m q bW hs2 hs3 (CE hK)
  .rw [show cv r m=eC r m by unfold cv;rw [if_neg (Λ k0),if_pos (aN k1)]] at hK;exact aBR (cZ y) hr m q bW hs2 hs3 (CE hK)
  .rw [show cv r m=cM r m by unfold cv;rw [if_neg (Λ k0),if_neg (Λ k1),if_pos (aN k2)]] at hK;exact a2Z (cZ y) hr m hmr q bW bp F4 (CE hK)
  .rw [show cv r m=dQ r m by unfold cv;rw [if_neg (Λ k0),if_neg (Λ k1),if_neg (Λ k2)]] at hK;exact a2d (cZ y) hr m q bW hs2 hs3 hi1 hi2 (CE hK)
  .exfalso;have:=Λ k0;have:=Λ k1;have:=Λ k2;have:=Λ b8;omega
end Go.Proofs.YtcmgeboolmmdkaaGreatDoor
end

