/- DERIVED: THE SHELF's CONTRACTS AT THIS DUMP, IN PLAIN WORDS (tools/lay-plain.mjs out of .. -/
import Derived.Shelf.Strings.Builder1
import Derived.Shelf.Strings.Builder2
import Derived.Shelf.Strings.OnBuilder
import Derived.Shelf.Small.Bits
import Derived.Shelf.Small.Wraps
import Derived.Shelf.Strings.BuilderF
import Derived.Shelf.Strings.BuilderK
import Derived.Shelf.Utf8.RuneCount
import Derived.Shelf.Strings.Builder2Cap
import Derived.Shelf.Strconv.Atoi
import Derived.Shelf.Strconv.Itoa0
import Derived.Shelf.Strconv.Itoa1
import Derived.Shelf.LaysM
import Derived.Shelf.Strconv.Itoa2
import Derived.Shelf.Strconv.Itoa3
import Derived.Shelf.Strconv.AtoiErrFast
import Derived.Shelf.Strconv.ParseIntEmpty
import Derived.Shelf.Strconv.AtoiFail
import Derived.Shelf.Strconv.Clone
import Derived.Shelf.Strconv.SyntaxError
import Derived.Shelf.LaysC
import Derived.Shelf.Strconv.ToError
import Derived.Shelf.Strconv.AtoiErr
import Derived.Shelf.Strconv.Lower
import Derived.Shelf.Strconv.ParseUint10
import Derived.Shelf.Strconv.ParseUint10Empty
import Derived.Shelf.Strconv.ParseUint10Any
import Derived.Shelf.Strconv.ParseInt10
import Derived.Shelf.Strconv.RangeError
import Derived.Shelf.Strconv.ToErrorRange
import Derived.Shelf.Strconv.ParseUintEmpty
import Derived.Shelf.Strconv.ParseUint10b64
import Derived.Shelf.Strconv.ParseUint10b32
import Derived.Shelf.Strconv.ParseUint10b16
import Derived.Shelf.Strconv.ParseUint10b8
import Derived.Shelf.Strconv.ParseUint10At
import Derived.Shelf.Strconv.ParseInt10At64
import Derived.Shelf.Strconv.ParseInt10At32
import Derived.Shelf.Strconv.ParseInt10At16
import Derived.Shelf.Strconv.ParseInt10At8
import Derived.Shelf.Strings.Search1
import Derived.Shelf.Strings.Search2
import Derived.Shelf.Strings.Search3
import Derived.Shelf.Strings.Cut
import Derived.Shelf.Strings.Count
import Derived.Shelf.Strings.Shaped
import Derived.Shelf.Sort.Plain
import Derived.Shelf.Strings.Split
import Derived.Shelf.Strings.SplitShaped
import Derived.Shelf.Unicode.Decode
import Derived.Shelf.Strings.RuneCount
import Derived.Shelf.Strings.Explode
import Derived.Shelf.Unicode.DecodeSlow
import Derived.Shelf.Unicode.DecodeAny
import Derived.Shelf.Strings.BuilderCap
import Derived.Shelf.Slices.Turned
import Derived.Shelf.Slices.Equal
import Derived.Ground.Names2Prog
import Derived.Shelf.Slices.Clone
import Derived.Shelf.Slices.CompactI
import Derived.Shelf.Slices.CompactS
import Derived.Shelf.Slices.SearchI
import Derived.Shelf.Slices.Cells
import Derived.Shelf.Slices.In.SortNone
import Derived.Shelf.Slices.Empties2
import Derived.Ground.SlgnProg
import Derived.Shelf.SlicesE.Clone
import Derived.Lib.MinMax
import Derived.Test.YtbillnhcmkpohaaGreatDoorM2
set_option maxRecDepth 1000000
set_option maxHeartbeats 0
namespace Go.Proofs
open Go.Shelf
def Tryz.lays169_ren:Go.Shelf.Ren:=⟨fun | 169=>169 | n=>n,fun | 70=>230 | 9=>9 | 0=>0 | 72=>233 | 37=>231 | 127=>274 | 3=>3 | 5=>5 | n=>n,fun | n=>n⟩
theorem Tryz.lays169:Go.Proofs.Lays.n169 Tryz.prog Tryz.lays169_ren:={
 mixed:=by kernel_rfl
 f169:=Tryz.func169.trans (congrArg some (by kernel_rfl))
 t0:=Tryz.underlying0
 a0:=Tryz.isAgg0
 z0:=Tryz.sizeOf0
 v0:=Tryz.zeroValue0
 t3:=Tryz.underlying3
 a3:=Tryz.isAgg3
 z3:=Tryz.sizeOf3
 v3:=Tryz.zeroValue3
 t9:=Tryz.underlying9
 a9:=Tryz.isAgg9
 z9:=Tryz.sizeOf9
 v9:=Tryz.zeroValue9
 t37:=Tryz.underlying231
 a37:=Tryz.isAgg231
 z37:=Tryz.sizeOf231
 v37:=Tryz.zeroValue231
 t70:=Tryz.underlying230
 a70:=Tryz.isAgg230
 z70:=Tryz.sizeOf230
 v70:=Tryz.zeroValue230
 t72:=Tryz.underlying233
 a72:=Tryz.isAgg233
 z72:=Tryz.sizeOf233
 v72:=Tryz.zeroValue233
 t127:=Tryz.underlying274
 a127:=Tryz.isAgg274
 z127:=Tryz.sizeOf274
 v127:=Tryz.zeroValue274 }
theorem Tryz.Builder_Extra_169:Builder.Extra Tryz.prog Tryz.lays169_ren:={
 sizeBuilder:=by kernel_rfl
 liesBuilder:=by kernel_rfl
 t5:=Tryz.underlying5
 a5:=Tryz.isAgg5
 z5:=Tryz.sizeOf5
 v5:=Tryz.zeroValue5
 infoByte:=by kernel_rfl
 cellsByte:=by kernel_rfl
 sizeByte:=by kernel_rfl
 neB5:=by decide }
open Go.RowKit in
theorem Tryz.Builder_String_any(B b:Nat)(l:List UInt8)(w:World)(h:Lib.IsBuilder 233 5 B b (Lib.byteCells l) w)(a:B≤w.heap.size) :
  Calls Tryz.prog 169 #[.pointer (some ⟨b,0,none⟩)] w fun e w'=>e=.returned (.string ⟨l.toArray⟩)∧Below B w w':=Any.Builder_String_any Tryz.lays169 Tryz.Builder_Extra_169 B b l w h a
def Tryz.lays156_ren:Go.Shelf.Ren:=⟨fun | 156=>166 | 165=>199 | 166=>165 | 169=>169 | 240=>198 | 241=>230 | 276=>229 | 277=>251 | n=>n,fun | 31=>40 | 9=>9 | 3=>3 | 4=>4 | 0=>0 | 20=>20 | 72=>233 | 76=>236 | 70=>230 | 37=>231 | 75=>235 | 127=>274 | 164=>295 | 5=>5 | 80=>123 | n=>n,fun | n=>n⟩
theorem Tryz.lays156:Go.Proofs.Lays.n156 Tryz.prog Tryz.lays156_ren:={
 mixed:=by kernel_rfl
 f156:=Tryz.func166.trans (congrArg some (by kernel_rfl))
 f165:=Tryz.func199.trans (congrArg some (by kernel_rfl))
 f166:=Tryz.func165.trans (congrArg some (by kernel_rfl))
 f169:=Tryz.func169.trans (congrArg some (by kernel_rfl))
 f240:=Tryz.func198.trans (congrArg some (by kernel_rfl))
 f241:=Tryz.func230.trans (congrArg some (by kernel_rfl))
 f276:=Tryz.func229.trans (congrArg some (by kernel_rfl))
 f277:=Tryz.func251.trans (congrArg some (by kernel_rfl))
 t0:=Tryz.underlying0
 a0:=Tryz.isAgg0
 z0:=Tryz.sizeOf0
 v0:=Tryz.zeroValue0
 t3:=Tryz.underlying3
 a3:=Tryz.isAgg3
 z3:=Tryz.sizeOf3
 v3:=Tryz.zeroValue3
 t4:=Tryz.underlying4
 a4:=Tryz.isAgg4
 z4:=Tryz.sizeOf4
 v4:=Tryz.zeroValue4
 t9:=Tryz.underlying9
 a9:=Tryz.isAgg9
 z9:=Tryz.sizeOf9
 v9:=Tryz.zeroValue9
 t20:=Tryz.underlying20
 a20:=Tryz.isAgg20
 z20:=Tryz.sizeOf20
 v20:=Tryz.zeroValue20
 t31:=Tryz.underlying40
 a31:=Tryz.isAgg40
 z31:=Tryz.sizeOf40
 v31:=Tryz.zeroValue40
 t37:=Tryz.underlying231
 a37:=Tryz.isAgg231
 z37:=Tryz.sizeOf231
 v37:=Tryz.zeroValue231
 t70:=Tryz.underlying230
 a70:=Tryz.isAgg230
 z70:=Tryz.sizeOf230
 v70:=Tryz.zeroValue230
 t72:=Tryz.underlying233
 a72:=Tryz.isAgg233
 z72:=Tryz.sizeOf233
 v72:=Tryz.zeroValue233
 t75:=Tryz.underlying235
 a75:=Tryz.isAgg235
 z75:=Tryz.sizeOf235
 v75:=Tryz.zeroValue235
 t76:=Tryz.underlying236
 a76:=Tryz.isAgg236
 z76:=Tryz.sizeOf236
 v76:=Tryz.zeroValue236
 t127:=Tryz.underlying274
 a127:=Tryz.isAgg274
 z127:=Tryz.sizeOf274
 v127:=Tryz.zeroValue274
 t164:=Tryz.underlying295
 a164:=Tryz.isAgg295
 z164:=Tryz.sizeOf295
 v164:=Tryz.zeroValue295 }
theorem Tryz.Builder_Extra_156:Builder.Extra Tryz.prog Tryz.lays156_ren:={
 sizeBuilder:=by kernel_rfl
 liesBuilder:=by kernel_rfl
 t5:=Tryz.underlying5
 a5:=Tryz.isAgg5
 z5:=Tryz.sizeOf5
 v5:=Tryz.zeroValue5
 infoByte:=by kernel_rfl
 cellsByte:=by kernel_rfl
 sizeByte:=by kernel_rfl
 neB5:=by decide }
open Go.RowKit in
theorem Tryz.strings_Join(g o c:Nat)(xs:List ByteArray)(b:ByteArray)(w:World)(a:∀(j:Nat) x,xs[j]?=some x→w.cell? ⟨g,o+j,none⟩=some (.string x))(h:g<w.heap.size)(i:xs.length≤140737488355328)(d:xs.length≤c)(f:(Lib.join (xs.map (·.data.toList)) b.data.toList).length≤140737488355328) :
  Calls Tryz.prog 166 #[.slice (some ⟨g,o,none⟩) xs.length c,.string b] w fun e w'=>e=.returned (.string ⟨(Lib.join (xs.map (·.data.toList)) b.data.toList).toArray⟩)∧Below w.heap.size w w':=Any.strings_Join Tryz.lays156 Tryz.Builder_Extra_156 g o c xs b w a h i d f
open Go.RowKit in
theorem Tryz.Builder_String_f(B b:Nat)(l:List UInt8)(w:World)(h:Lib.IsBuilderF 233 5 B b (Lib.byteCells l) w)(a:l≠[]) :
  Calls Tryz.prog 169 #[.pointer (some ⟨b,0,none⟩)] w fun e w'=>e=.returned (.string ⟨l.toArray⟩)∧(Lib.IsBuilderF 233 5 B b (Lib.byteCells l) w'∧Below B w w'):=Any.Builder_String_f Tryz.lays169 Tryz.Builder_Extra_169 B b l w h a
def Tryz.lays172_ren:Go.Shelf.Ren:=⟨fun | 172=>205 | 244=>239 | 245=>240 | 247=>259 | 279=>260 | 280=>261 | 281=>262 | 282=>263 | 287=>270 | 316=>271 | 171=>168 | 205=>272 | 321=>275 | 322=>276 | 243=>200 | 246=>231 | 283=>252 | 284=>253 | 285=>254 | 286=>255 | 129=>219 | 317=>266 | 318=>267 | 319=>268 | 320=>269 | 337=>273 | 338=>274 | n=>n,fun | 9=>9 | 3=>3 | 75=>235 | 76=>236 | 4=>4 | 5=>5 | 167=>317 | 37=>231 | 0=>0 | 85=>318 | 2=>2 | 168=>320 | 53=>288 | 175=>333 | 46=>255 | 210=>337 | 127=>274 | 145=>342 | 143=>340 | 21=>21 | 171=>311 | 173=>313 | 212=>327 | 51=>51 | 20=>20 | 213=>328 | 232=>343 | 233=>344 | 80=>123 | n=>n,fun | 15=>4 | 16=>5 | 17=>1 | 18=>6 | 19=>7 | n=>n⟩
theorem Tryz.lays172:Go.Proofs.Lays.n172 Tryz.prog Tryz.lays172_ren:={
 mixed:=by kernel_rfl
 f129:=Tryz.func219.trans (congrArg some (by kernel_rfl))
 f171:=Tryz.func168.trans (congrArg some (by kernel_rfl))
 f172:=Tryz.func205.trans (congrArg some (by kernel_rfl))
 f205:=Tryz.func272.trans (congrArg some (by kernel_rfl))
 f243:=Tryz.func200.trans (congrArg some (by kernel_rfl))
 f244:=Tryz.func239.trans (congrArg some (by kernel_rfl))
 f245:=Tryz.func240.trans (congrArg some (by kernel_rfl))
 f246:=Tryz.func231.trans (congrArg some (by kernel_rfl))
 f247:=Tryz.func259.trans (congrArg some (by kernel_rfl))
 f279:=Tryz.func260.trans (congrArg some (by kernel_rfl))
 f280:=Tryz.func261.trans (congrArg some (by kernel_rfl))
 f281:=Tryz.func262.trans (congrArg some (by kernel_rfl))
 f282:=Tryz.func263.trans (congrArg some (by kernel_rfl))
 f283:=Tryz.func252.trans (congrArg some (by kernel_rfl))
 f284:=Tryz.func253.trans (congrArg some (by kernel_rfl))
 f285:=Tryz.func254.trans (congrArg some (by kernel_rfl))
 f286:=Tryz.func255.trans (congrArg some (by kernel_rfl))
 f287:=Tryz.func270.trans (congrArg some (by kernel_rfl))
 f316:=Tryz.func271.trans (congrArg some (by kernel_rfl))
 f317:=Tryz.func266.trans (congrArg some (by kernel_rfl))
 f318:=Tryz.func267.trans (congrArg some (by kernel_rfl))
 f319:=Tryz.func268.trans (congrArg some (by kernel_rfl))
 f320:=Tryz.func269.trans (congrArg some (by kernel_rfl))
 f321:=Tryz.func275.trans (congrArg some (by kernel_rfl))
 f322:=Tryz.func276.trans (congrArg some (by kernel_rfl))
 f337:=Tryz.func273.trans (congrArg some (by kernel_rfl))
 f338:=Tryz.func274.trans (congrArg some (by kernel_rfl))
 t0:=Tryz.underlying0
 a0:=Tryz.isAgg0
 z0:=Tryz.sizeOf0
 v0:=Tryz.zeroValue0
 t2:=Tryz.underlying2
 a2:=Tryz.isAgg2
 z2:=Tryz.sizeOf2
 v2:=Tryz.zeroValue2
 t3:=Tryz.underlying3
 a3:=Tryz.isAgg3
 z3:=Tryz.sizeOf3
 v3:=Tryz.zeroValue3
 t4:=Tryz.underlying4
 a4:=Tryz.isAgg4
 z4:=Tryz.sizeOf4
 v4:=Tryz.zeroValue4
 t5:=Tryz.underlying5
 a5:=Tryz.isAgg5
 z5:=Tryz.sizeOf5
 v5:=Tryz.zeroValue5
 t9:=Tryz.underlying9
 a9:=Tryz.isAgg9
 z9:=Tryz.sizeOf9
 v9:=Tryz.zeroValue9
 t20:=Tryz.underlying20
 a20:=Tryz.isAgg20
 z20:=Tryz.sizeOf20
 v20:=Tryz.zeroValue20
 t21:=Tryz.underlying21
 a21:=Tryz.isAgg21
 z21:=Tryz.sizeOf21
 v21:=Tryz.zeroValue21
 t37:=Tryz.underlying231
 a37:=Tryz.isAgg231
 z37:=Tryz.sizeOf231
 v37:=Tryz.zeroValue231
 t46:=Tryz.underlying255
 a46:=Tryz.isAgg255
 z46:=Tryz.sizeOf255
 v46:=Tryz.zeroValue255
 t51:=Tryz.underlying51
 a51:=Tryz.isAgg51
 z51:=Tryz.sizeOf51
 v51:=Tryz.zeroValue51
 t53:=Tryz.underlying288
 a53:=Tryz.isAgg288
 z53:=Tryz.sizeOf288
 v53:=Tryz.zeroValue288
 t75:=Tryz.underlying235
 a75:=Tryz.isAgg235
 z75:=Tryz.sizeOf235
 v75:=Tryz.zeroValue235
 t76:=Tryz.underlying236
 a76:=Tryz.isAgg236
 z76:=Tryz.sizeOf236
 v76:=Tryz.zeroValue236
 t85:=Tryz.underlying318
 a85:=Tryz.isAgg318
 z85:=Tryz.sizeOf318
 v85:=Tryz.zeroValue318
 t127:=Tryz.underlying274
 a127:=Tryz.isAgg274
 z127:=Tryz.sizeOf274
 v127:=Tryz.zeroValue274
 t143:=Tryz.underlying340
 a143:=Tryz.isAgg340
 z143:=Tryz.sizeOf340
 v143:=Tryz.zeroValue340
 t145:=Tryz.underlying342
 a145:=Tryz.isAgg342
 z145:=Tryz.sizeOf342
 v145:=Tryz.zeroValue342
 t167:=Tryz.underlying317
 a167:=Tryz.isAgg317
 z167:=Tryz.sizeOf317
 v167:=Tryz.zeroValue317
 t168:=Tryz.underlying320
 a168:=Tryz.isAgg320
 z168:=Tryz.sizeOf320
 v168:=Tryz.zeroValue320
 t171:=Tryz.underlying311
 a171:=Tryz.isAgg311
 z171:=Tryz.sizeOf311
 v171:=Tryz.zeroValue311
 t173:=Tryz.underlying313
 a173:=Tryz.isAgg313
 z173:=Tryz.sizeOf313
 v173:=Tryz.zeroValue313
 t175:=Tryz.underlying333
 a175:=Tryz.isAgg333
 z175:=Tryz.sizeOf333
 v175:=Tryz.zeroValue333
 t210:=Tryz.underlying337
 a210:=Tryz.isAgg337
 z210:=Tryz.sizeOf337
 v210:=Tryz.zeroValue337
 t212:=Tryz.underlying327
 a212:=Tryz.isAgg327
 z212:=Tryz.sizeOf327
 v212:=Tryz.zeroValue327
 t213:=Tryz.underlying328
 a213:=Tryz.isAgg328
 z213:=Tryz.sizeOf328
 t232:=Tryz.underlying343
 a232:=Tryz.isAgg343
 z232:=Tryz.sizeOf343
 v232:=Tryz.zeroValue343
 t233:=Tryz.underlying344
 a233:=Tryz.isAgg344
 z233:=Tryz.sizeOf344
 v233:=Tryz.zeroValue344
 g15:=by kernel_rfl
 g16:=by kernel_rfl
 g17:=by kernel_rfl
 g18:=by kernel_rfl
 g19:=by kernel_rfl }
open Go.RowKit in
theorem Tryz.strconv_Atoi(s:ByteArray)(n:Int)(a:s.size≤18)(h:Lib.atoi s.data.toList=some n)(w:World) :
  Calls Tryz.prog 205 #[.string s] w fun e w'=>e=.returned (.tuple #[.int .i64 n,.nilIface])∧∃t,w'=Lib.bytesWorld w 5 t:=Any.strconv_Atoi Tryz.lays172 s n a h w
def Tryz.laysM171_ren:Go.Shelf.Ren:=⟨fun | 171=>168 | 243=>200 | 246=>231 | 283=>252 | 284=>253 | 285=>254 | 286=>255 | 129=>219 | 317=>266 | 318=>267 | 319=>268 | 320=>269 | 337=>273 | 338=>274 | n=>n,fun | 3=>3 | 9=>9 | 2=>2 | 4=>4 | 171=>311 | 0=>0 | 53=>288 | 37=>231 | 5=>5 | 173=>313 | 212=>327 | 51=>51 | 20=>20 | 213=>328 | 46=>255 | 232=>343 | 233=>344 | n=>n,fun | 17=>1 | 18=>6 | 19=>7 | n=>n⟩
theorem Tryz.laysM171:Go.Proofs.LaysM.n171 Tryz.prog Tryz.laysM171_ren:={
 mixed:=by kernel_rfl
 f129:=Tryz.func219.trans (congrArg some (by kernel_rfl))
 f171:=Tryz.func168.trans (congrArg some (by kernel_rfl))
 f243:=Tryz.func200.trans (congrArg some (by kernel_rfl))
 f246:=Tryz.func231.trans (congrArg some (by kernel_rfl))
 f283:=Tryz.func252.trans (congrArg some (by kernel_rfl))
 f284:=Tryz.func253.trans (congrArg some (by kernel_rfl))
 f285:=Tryz.func254.trans (congrArg some (by kernel_rfl))
 f286:=Tryz.func255.trans (congrArg some (by kernel_rfl))
 f317:=Tryz.func266.trans (congrArg some (by kernel_rfl))
 f318:=Tryz.func267.trans (congrArg some (by kernel_rfl))
 f319:=Tryz.func268.trans (congrArg some (by kernel_rfl))
 f320:=Tryz.func269.trans (congrArg some (by kernel_rfl))
 f337:=Tryz.func273.trans (congrArg some (by kernel_rfl))
 f338:=Tryz.func274.trans (congrArg some (by kernel_rfl))
 t0:=Tryz.underlying0
 a0:=Tryz.isAgg0
 z0:=Tryz.sizeOf0
 v0:=Tryz.zeroValue0
 t2:=Tryz.underlying2
 a2:=Tryz.isAgg2
 z2:=Tryz.sizeOf2
 v2:=Tryz.zeroValue2
 t3:=Tryz.underlying3
 a3:=Tryz.isAgg3
 z3:=Tryz.sizeOf3
 v3:=Tryz.zeroValue3
 t4:=Tryz.underlying4
 a4:=Tryz.isAgg4
 z4:=Tryz.sizeOf4
 v4:=Tryz.zeroValue4
 t5:=Tryz.underlying5
 a5:=Tryz.isAgg5
 z5:=Tryz.sizeOf5
 v5:=Tryz.zeroValue5
 t9:=Tryz.underlying9
 a9:=Tryz.isAgg9
 z9:=Tryz.sizeOf9
 v9:=Tryz.zeroValue9
 t20:=Tryz.underlying20
 a20:=Tryz.isAgg20
 z20:=Tryz.sizeOf20
 v20:=Tryz.zeroValue20
 t37:=Tryz.underlying231
 a37:=Tryz.isAgg231
 z37:=Tryz.sizeOf231
 v37:=Tryz.zeroValue231
 t46:=Tryz.underlying255
 a46:=Tryz.isAgg255
 z46:=Tryz.sizeOf255
 v46:=Tryz.zeroValue255
 t51:=Tryz.underlying51
 a51:=Tryz.isAgg51
 z51:=Tryz.sizeOf51
 v51:=Tryz.zeroValue51
 t53:=Tryz.underlying288
 a53:=Tryz.isAgg288
 z53:=Tryz.sizeOf288
 v53:=Tryz.zeroValue288
 t171:=Tryz.underlying311
 a171:=Tryz.isAgg311
 z171:=Tryz.sizeOf311
 v171:=Tryz.zeroValue311
 t173:=Tryz.underlying313
 a173:=Tryz.isAgg313
 z173:=Tryz.sizeOf313
 v173:=Tryz.zeroValue313
 t212:=Tryz.underlying327
 a212:=Tryz.isAgg327
 z212:=Tryz.sizeOf327
 v212:=Tryz.zeroValue327
 t213:=Tryz.underlying328
 a213:=Tryz.isAgg328
 z213:=Tryz.sizeOf328
 t232:=Tryz.underlying343
 a232:=Tryz.isAgg343
 z232:=Tryz.sizeOf343
 v232:=Tryz.zeroValue343
 t233:=Tryz.underlying344
 a233:=Tryz.isAgg344
 z233:=Tryz.sizeOf344
 v233:=Tryz.zeroValue344
 g17:=by kernel_rfl
 g18:=by kernel_rfl
 g19:=by kernel_rfl
 i0:=by kernel_rfl
 i2:=by kernel_rfl
 i3:=by kernel_rfl
 i4:=by kernel_rfl
 i5:=by kernel_rfl
 i9:=by kernel_rfl
 i20:=by kernel_rfl
 i37:=by kernel_rfl
 i46:=by kernel_rfl
 i51:=by kernel_rfl
 i53:=by kernel_rfl
 i171:=by kernel_rfl
 i173:=by kernel_rfl
 i212:=by kernel_rfl
 i232:=by kernel_rfl
 i233:=by kernel_rfl
 m17:=by kernel_rfl
 m18:=by kernel_rfl
 m19:=by kernel_rfl }
open Go.RowKit Go.Sort Go.Lib in
theorem Tryz.strconv_Itoa(n:Int)(b:-9223372036854775808≤n)(c:n≤9223372036854775807)(w:World)(a:Lib.TabIs Tryz.prog w "internal/strconv.uint64pow10" .u64 Lib.pow10Tab) :
  Calls Tryz.prog 168 #[.int .i64 n] w fun e w'=>e=.returned (.string ⟨(Lib.itoa n).toArray⟩)∧∃k os,w'=grow (w.drewN k) os:=Any.strconv_Itoa Tryz.laysM171 n b c w a
def Tryz.lays145_ren:Go.Shelf.Ren:=⟨fun | 145=>106 | 220=>170 | 219=>201 | 217=>232 | 225=>233 | 224=>234 | 267=>235 | 266=>256 | 314=>257 | n=>n,fun | 9=>9 | 4=>4 | 59=>191 | 3=>3 | 5=>5 | 46=>255 | 146=>315 | 51=>51 | n=>n,fun | 1=>0 | n=>n⟩
theorem Tryz.lays145:Go.Proofs.Lays.n145 Tryz.prog Tryz.lays145_ren:={
 mixed:=by kernel_rfl
 f145:=Tryz.func106.trans (congrArg some (by kernel_rfl))
 f217:=Tryz.func232.trans (congrArg some (by kernel_rfl))
 f219:=Tryz.func201.trans (congrArg some (by kernel_rfl))
 f220:=Tryz.func170.trans (congrArg some (by kernel_rfl))
 f224:=Tryz.func234.trans (congrArg some (by kernel_rfl))
 f225:=Tryz.func233.trans (congrArg some (by kernel_rfl))
 f266:=Tryz.func256.trans (congrArg some (by kernel_rfl))
 f267:=Tryz.func235.trans (congrArg some (by kernel_rfl))
 f314:=Tryz.func257.trans (congrArg some (by kernel_rfl))
 t3:=Tryz.underlying3
 a3:=Tryz.isAgg3
 z3:=Tryz.sizeOf3
 v3:=Tryz.zeroValue3
 t4:=Tryz.underlying4
 a4:=Tryz.isAgg4
 z4:=Tryz.sizeOf4
 v4:=Tryz.zeroValue4
 t5:=Tryz.underlying5
 a5:=Tryz.isAgg5
 z5:=Tryz.sizeOf5
 v5:=Tryz.zeroValue5
 t9:=Tryz.underlying9
 a9:=Tryz.isAgg9
 z9:=Tryz.sizeOf9
 v9:=Tryz.zeroValue9
 t46:=Tryz.underlying255
 a46:=Tryz.isAgg255
 z46:=Tryz.sizeOf255
 v46:=Tryz.zeroValue255
 t51:=Tryz.underlying51
 a51:=Tryz.isAgg51
 z51:=Tryz.sizeOf51
 v51:=Tryz.zeroValue51
 t59:=Tryz.underlying191
 a59:=Tryz.isAgg191
 z59:=Tryz.sizeOf191
 v59:=Tryz.zeroValue191
 t146:=Tryz.underlying315
 a146:=Tryz.isAgg315
 z146:=Tryz.sizeOf315
 v146:=Tryz.zeroValue315
 g1:=by kernel_rfl }
open Go.RowKit Go.Lib in
theorem Tryz.strings_Cut(s a:ByteArray)(m:Int)(w:World)(c:s.size<4294967281)(b:w.cell? ⟨0,0,none⟩=some (.int .i64 m)) :
  Calls Tryz.prog 106 #[.string s,.string a] w fun e w'=>e=.returned (.tuple #[.string ⟨(Lib.cut s.data.toList a.data.toList).1.toArray⟩,.string ⟨(Lib.cut s.data.toList a.data.toList).2.1.toArray⟩,.bool (Lib.cut s.data.toList a.data.toList).2.2])∧∃n,w'=w.drewN n:=Any.strings_Cut Tryz.lays145 s a m w c b
def Tryz.lays189_ren:Go.Shelf.Ren:=⟨fun | 189=>117 | 125=>180 | 257=>179 | 128=>218 | 129=>219 | 294=>209 | 295=>210 | 296=>211 | 297=>212 | 298=>213 | 299=>214 | 216=>215 | 300=>216 | 301=>217 | 328=>241 | 329=>242 | 330=>243 | 331=>244 | 332=>245 | 215=>246 | 343=>264 | n=>n,fun | 28=>48 | 3=>3 | 46=>255 | 0=>0 | 51=>51 | 53=>288 | 4=>4 | 183=>280 | 182=>279 | 131=>284 | 5=>5 | 9=>9 | 218=>302 | 222=>306 | 228=>323 | 229=>149 | n=>n,fun | n=>n⟩
theorem Tryz.lays189:Go.Proofs.Lays.n189 Tryz.prog Tryz.lays189_ren:={
 mixed:=by kernel_rfl
 f125:=Tryz.func180.trans (congrArg some (by kernel_rfl))
 f128:=Tryz.func218.trans (congrArg some (by kernel_rfl))
 f129:=Tryz.func219.trans (congrArg some (by kernel_rfl))
 f189:=Tryz.func117.trans (congrArg some (by kernel_rfl))
 f215:=Tryz.func246.trans (congrArg some (by kernel_rfl))
 f216:=Tryz.func215.trans (congrArg some (by kernel_rfl))
 f257:=Tryz.func179.trans (congrArg some (by kernel_rfl))
 f294:=Tryz.func209.trans (congrArg some (by kernel_rfl))
 f295:=Tryz.func210.trans (congrArg some (by kernel_rfl))
 f296:=Tryz.func211.trans (congrArg some (by kernel_rfl))
 f297:=Tryz.func212.trans (congrArg some (by kernel_rfl))
 f298:=Tryz.func213.trans (congrArg some (by kernel_rfl))
 f299:=Tryz.func214.trans (congrArg some (by kernel_rfl))
 f300:=Tryz.func216.trans (congrArg some (by kernel_rfl))
 f301:=Tryz.func217.trans (congrArg some (by kernel_rfl))
 f328:=Tryz.func241.trans (congrArg some (by kernel_rfl))
 f329:=Tryz.func242.trans (congrArg some (by kernel_rfl))
 f330:=Tryz.func243.trans (congrArg some (by kernel_rfl))
 f331:=Tryz.func244.trans (congrArg some (by kernel_rfl))
 f332:=Tryz.func245.trans (congrArg some (by kernel_rfl))
 f343:=Tryz.func264.trans (congrArg some (by kernel_rfl))
 t0:=Tryz.underlying0
 a0:=Tryz.isAgg0
 z0:=Tryz.sizeOf0
 v0:=Tryz.zeroValue0
 t3:=Tryz.underlying3
 a3:=Tryz.isAgg3
 z3:=Tryz.sizeOf3
 v3:=Tryz.zeroValue3
 t4:=Tryz.underlying4
 a4:=Tryz.isAgg4
 z4:=Tryz.sizeOf4
 v4:=Tryz.zeroValue4
 t5:=Tryz.underlying5
 a5:=Tryz.isAgg5
 z5:=Tryz.sizeOf5
 v5:=Tryz.zeroValue5
 t9:=Tryz.underlying9
 a9:=Tryz.isAgg9
 z9:=Tryz.sizeOf9
 v9:=Tryz.zeroValue9
 t28:=Tryz.underlying48
 a28:=Tryz.isAgg48
 z28:=Tryz.sizeOf48
 v28:=Tryz.zeroValue48
 t46:=Tryz.underlying255
 a46:=Tryz.isAgg255
 z46:=Tryz.sizeOf255
 v46:=Tryz.zeroValue255
 t51:=Tryz.underlying51
 a51:=Tryz.isAgg51
 z51:=Tryz.sizeOf51
 v51:=Tryz.zeroValue51
 t53:=Tryz.underlying288
 a53:=Tryz.isAgg288
 z53:=Tryz.sizeOf288
 v53:=Tryz.zeroValue288
 t131:=Tryz.underlying284
 a131:=Tryz.isAgg284
 z131:=Tryz.sizeOf284
 v131:=Tryz.zeroValue284
 t182:=Tryz.underlying279
 a182:=Tryz.isAgg279
 z182:=Tryz.sizeOf279
 v182:=Tryz.zeroValue279
 t183:=Tryz.underlying280
 a183:=Tryz.isAgg280
 z183:=Tryz.sizeOf280
 v183:=Tryz.zeroValue280
 t218:=Tryz.underlying302
 a218:=Tryz.isAgg302
 z218:=Tryz.sizeOf302
 v218:=Tryz.zeroValue302
 t222:=Tryz.underlying306
 a222:=Tryz.isAgg306
 z222:=Tryz.sizeOf306
 v222:=Tryz.zeroValue306
 t228:=Tryz.underlying323
 a228:=Tryz.isAgg323
 z228:=Tryz.sizeOf323
 v228:=Tryz.zeroValue323
 t229:=Tryz.underlying149
 a229:=Tryz.isAgg149
 z229:=Tryz.sizeOf149
 v229:=Tryz.zeroValue149 }
open Go.Sort Go.RowKit in
theorem Tryz.slices_Sort_int(a b cap:Nat)(d:List Int)(w:World)(g:Holds (Value.int .i64) w a b d.toArray)(c:a<w.heap.size)(f:d.length<4611686018427387904) :
  Calls Tryz.prog 117 #[.slice (some ⟨a,b,none⟩) d.length cap] w fun e w' =>
   e=.returned (.tuple #[])∧∃n os,w'=grow (putRow (Value.int .i64) (Sort.ahead w n) a b (d.mergeSort fun x y=>decide (x≤y)).toArray) os:=Any.slices_Sort_int Tryz.lays189 a b cap d w g c f
def Tryz.lays190_ren:Go.Shelf.Ren:=⟨fun | 190=>158 | 125=>180 | 258=>196 | 128=>218 | 129=>219 | 302=>220 | 303=>221 | 304=>222 | 305=>223 | 306=>224 | 307=>225 | 308=>226 | 309=>227 | 310=>228 | 333=>247 | 329=>242 | 330=>243 | 334=>248 | 335=>249 | 336=>250 | 344=>265 | n=>n,fun | 31=>40 | 9=>9 | 3=>3 | 46=>255 | 0=>0 | 51=>51 | 53=>288 | 4=>4 | 183=>280 | 182=>279 | 131=>284 | 5=>5 | 218=>302 | 222=>306 | 228=>323 | 229=>149 | n=>n,fun | n=>n⟩
theorem Tryz.lays190:Go.Proofs.Lays.n190 Tryz.prog Tryz.lays190_ren:={
 mixed:=by kernel_rfl
 f125:=Tryz.func180.trans (congrArg some (by kernel_rfl))
 f128:=Tryz.func218.trans (congrArg some (by kernel_rfl))
 f129:=Tryz.func219.trans (congrArg some (by kernel_rfl))
 f190:=Tryz.func158.trans (congrArg some (by kernel_rfl))
 f258:=Tryz.func196.trans (congrArg some (by kernel_rfl))
 f302:=Tryz.func220.trans (congrArg some (by kernel_rfl))
 f303:=Tryz.func221.trans (congrArg some (by kernel_rfl))
 f304:=Tryz.func222.trans (congrArg some (by kernel_rfl))
 f305:=Tryz.func223.trans (congrArg some (by kernel_rfl))
 f306:=Tryz.func224.trans (congrArg some (by kernel_rfl))
 f307:=Tryz.func225.trans (congrArg some (by kernel_rfl))
 f308:=Tryz.func226.trans (congrArg some (by kernel_rfl))
 f309:=Tryz.func227.trans (congrArg some (by kernel_rfl))
 f310:=Tryz.func228.trans (congrArg some (by kernel_rfl))
 f329:=Tryz.func242.trans (congrArg some (by kernel_rfl))
 f330:=Tryz.func243.trans (congrArg some (by kernel_rfl))
 f333:=Tryz.func247.trans (congrArg some (by kernel_rfl))
 f334:=Tryz.func248.trans (congrArg some (by kernel_rfl))
 f335:=Tryz.func249.trans (congrArg some (by kernel_rfl))
 f336:=Tryz.func250.trans (congrArg some (by kernel_rfl))
 f344:=Tryz.func265.trans (congrArg some (by kernel_rfl))
 t0:=Tryz.underlying0
 a0:=Tryz.isAgg0
 z0:=Tryz.sizeOf0
 v0:=Tryz.zeroValue0
 t3:=Tryz.underlying3
 a3:=Tryz.isAgg3
 z3:=Tryz.sizeOf3
 v3:=Tryz.zeroValue3
 t4:=Tryz.underlying4
 a4:=Tryz.isAgg4
 z4:=Tryz.sizeOf4
 v4:=Tryz.zeroValue4
 t5:=Tryz.underlying5
 a5:=Tryz.isAgg5
 z5:=Tryz.sizeOf5
 v5:=Tryz.zeroValue5
 t9:=Tryz.underlying9
 a9:=Tryz.isAgg9
 z9:=Tryz.sizeOf9
 v9:=Tryz.zeroValue9
 t31:=Tryz.underlying40
 a31:=Tryz.isAgg40
 z31:=Tryz.sizeOf40
 v31:=Tryz.zeroValue40
 t46:=Tryz.underlying255
 a46:=Tryz.isAgg255
 z46:=Tryz.sizeOf255
 v46:=Tryz.zeroValue255
 t51:=Tryz.underlying51
 a51:=Tryz.isAgg51
 z51:=Tryz.sizeOf51
 v51:=Tryz.zeroValue51
 t53:=Tryz.underlying288
 a53:=Tryz.isAgg288
 z53:=Tryz.sizeOf288
 v53:=Tryz.zeroValue288
 t131:=Tryz.underlying284
 a131:=Tryz.isAgg284
 z131:=Tryz.sizeOf284
 v131:=Tryz.zeroValue284
 t182:=Tryz.underlying279
 a182:=Tryz.isAgg279
 z182:=Tryz.sizeOf279
 v182:=Tryz.zeroValue279
 t183:=Tryz.underlying280
 a183:=Tryz.isAgg280
 z183:=Tryz.sizeOf280
 v183:=Tryz.zeroValue280
 t218:=Tryz.underlying302
 a218:=Tryz.isAgg302
 z218:=Tryz.sizeOf302
 v218:=Tryz.zeroValue302
 t222:=Tryz.underlying306
 a222:=Tryz.isAgg306
 z222:=Tryz.sizeOf306
 v222:=Tryz.zeroValue306
 t228:=Tryz.underlying323
 a228:=Tryz.isAgg323
 z228:=Tryz.sizeOf323
 v228:=Tryz.zeroValue323
 t229:=Tryz.underlying149
 a229:=Tryz.isAgg149
 z229:=Tryz.sizeOf149
 v229:=Tryz.zeroValue149 }
open Go.Sort Go.RowKit in
theorem Tryz.slices_Sort_string(a b cap:Nat)(d:List (List UInt8))(w:World)(g:Holds encStr w a b d.toArray)(c:a<w.heap.size)(f:d.length<4611686018427387904) :
  Calls Tryz.prog 158 #[.slice (some ⟨a,b,none⟩) d.length cap] w fun e w' =>
   e=.returned (.tuple #[])∧∃n os,w'=grow (putRow encStr (Sort.ahead w n) a b (d.mergeSort fun x y=>decide (x≤y)).toArray) os:=Any.slices_Sort_string Tryz.lays190 a b cap d w g c f
def Tryz.lays146_ren:Go.Shelf.Ren:=⟨fun | 146=>108 | 221=>171 | 268=>202 | 138=>203 | 143=>204 | 195=>236 | 197=>237 | 218=>238 | 219=>201 | 260=>258 | 217=>232 | 225=>233 | 224=>234 | 267=>235 | 266=>256 | 314=>257 | n=>n,fun | 9=>9 | 31=>40 | 3=>3 | 4=>4 | 0=>0 | 105=>299 | 21=>21 | 5=>5 | 46=>255 | 119=>329 | 139=>332 | 138=>331 | 146=>315 | 51=>51 | n=>n,fun | 1=>0 | 3=>2 | 4=>3 | n=>n⟩
theorem Tryz.lays146:Go.Proofs.Lays.n146 Tryz.prog Tryz.lays146_ren:={
 mixed:=by kernel_rfl
 f138:=Tryz.func203.trans (congrArg some (by kernel_rfl))
 f143:=Tryz.func204.trans (congrArg some (by kernel_rfl))
 f146:=Tryz.func108.trans (congrArg some (by kernel_rfl))
 f195:=Tryz.func236.trans (congrArg some (by kernel_rfl))
 f197:=Tryz.func237.trans (congrArg some (by kernel_rfl))
 f217:=Tryz.func232.trans (congrArg some (by kernel_rfl))
 f218:=Tryz.func238.trans (congrArg some (by kernel_rfl))
 f219:=Tryz.func201.trans (congrArg some (by kernel_rfl))
 f221:=Tryz.func171.trans (congrArg some (by kernel_rfl))
 f224:=Tryz.func234.trans (congrArg some (by kernel_rfl))
 f225:=Tryz.func233.trans (congrArg some (by kernel_rfl))
 f260:=Tryz.func258.trans (congrArg some (by kernel_rfl))
 f266:=Tryz.func256.trans (congrArg some (by kernel_rfl))
 f267:=Tryz.func235.trans (congrArg some (by kernel_rfl))
 f268:=Tryz.func202.trans (congrArg some (by kernel_rfl))
 f314:=Tryz.func257.trans (congrArg some (by kernel_rfl))
 t0:=Tryz.underlying0
 a0:=Tryz.isAgg0
 z0:=Tryz.sizeOf0
 v0:=Tryz.zeroValue0
 t3:=Tryz.underlying3
 a3:=Tryz.isAgg3
 z3:=Tryz.sizeOf3
 v3:=Tryz.zeroValue3
 t4:=Tryz.underlying4
 a4:=Tryz.isAgg4
 z4:=Tryz.sizeOf4
 v4:=Tryz.zeroValue4
 t5:=Tryz.underlying5
 a5:=Tryz.isAgg5
 z5:=Tryz.sizeOf5
 v5:=Tryz.zeroValue5
 t9:=Tryz.underlying9
 a9:=Tryz.isAgg9
 z9:=Tryz.sizeOf9
 v9:=Tryz.zeroValue9
 t21:=Tryz.underlying21
 a21:=Tryz.isAgg21
 z21:=Tryz.sizeOf21
 v21:=Tryz.zeroValue21
 t31:=Tryz.underlying40
 a31:=Tryz.isAgg40
 z31:=Tryz.sizeOf40
 v31:=Tryz.zeroValue40
 t46:=Tryz.underlying255
 a46:=Tryz.isAgg255
 z46:=Tryz.sizeOf255
 v46:=Tryz.zeroValue255
 t51:=Tryz.underlying51
 a51:=Tryz.isAgg51
 z51:=Tryz.sizeOf51
 v51:=Tryz.zeroValue51
 t105:=Tryz.underlying299
 a105:=Tryz.isAgg299
 z105:=Tryz.sizeOf299
 v105:=Tryz.zeroValue299
 t119:=Tryz.underlying329
 a119:=Tryz.isAgg329
 z119:=Tryz.sizeOf329
 t138:=Tryz.underlying331
 a138:=Tryz.isAgg331
 z138:=Tryz.sizeOf331
 v138:=Tryz.zeroValue331
 t139:=Tryz.underlying332
 a139:=Tryz.isAgg332
 z139:=Tryz.sizeOf332
 v139:=Tryz.zeroValue332
 t146:=Tryz.underlying315
 a146:=Tryz.isAgg315
 z146:=Tryz.sizeOf315
 v146:=Tryz.zeroValue315
 g1:=by kernel_rfl
 g3:=by kernel_rfl
 g4:=by kernel_rfl }
open Go.RowKit Go.Lib in
theorem Tryz.strings_Split(s a:ByteArray)(m:Int)(w:World)(d:s.size<4294967281)(c:w.cell? ⟨0,0,none⟩=some (.int .i64 m))(b:1≤a.size) :
  Calls Tryz.prog 108 #[.string s,.string a] w fun e w' =>
   e=.returned (.slice (some ⟨w.heap.size,0,none⟩) (Lib.countB s a+1) (Lib.countB s a+1))∧w'=w.alloc (.cells ((Lib.splitB a 0 (Lib.countB s a) s).map Value.string).toArray 9):=Any.strings_Split Tryz.lays146 (by kernel_rfl) s a m w d c b
def Tryz.lays107_ren:Go.Shelf.Ren:=⟨fun | 107=>177 | 108=>208 | n=>n,fun | 28=>48 | 3=>3 | 4=>4 | 0=>0 | n=>n,fun | n=>n⟩
theorem Tryz.lays107:Go.Proofs.Lays.n107 Tryz.prog Tryz.lays107_ren:={
 mixed:=by kernel_rfl
 f107:=Tryz.func177.trans (congrArg some (by kernel_rfl))
 f108:=Tryz.func208.trans (congrArg some (by kernel_rfl))
 t0:=Tryz.underlying0
 a0:=Tryz.isAgg0
 z0:=Tryz.sizeOf0
 v0:=Tryz.zeroValue0
 t3:=Tryz.underlying3
 a3:=Tryz.isAgg3
 z3:=Tryz.sizeOf3
 v3:=Tryz.zeroValue3
 t4:=Tryz.underlying4
 a4:=Tryz.isAgg4
 z4:=Tryz.sizeOf4
 v4:=Tryz.zeroValue4
 t28:=Tryz.underlying48
 a28:=Tryz.isAgg48
 z28:=Tryz.sizeOf48
 v28:=Tryz.zeroValue48 }
open Go.Lib in
theorem Tryz.slices_Contains_int(b a n c:Nat)(f:List Int)(x:Int)(w:World)(g:n≤f.length)(d:n≤9223372036854775807)(hc:∀j,j<f.length→w.cell? ⟨b,a+j,none⟩=some (.int .i64 (f.getD j 0))) :
  Calls Tryz.prog 177 #[.slice (some ⟨b,a,none⟩) n c,.int .i64 x] w fun e w'=>e=.returned (.bool ((f.take n).contains x))∧w'=w:=Any.slices_Contains_int Tryz.lays107 b a n c f x w g d hc
open Go.Lib in
theorem Tryz.slices_Contains_int_empty(a:Option Addr)(c:Nat)(x:Int)(w:World) :
  Calls Tryz.prog 177 #[.slice a 0 c,.int .i64 x] w fun e w'=>e=.returned (.bool false)∧w'=w:=Any.slices_Contains_int_empty Tryz.lays107 a c x w
def Tryz.lays109_ren:Go.Shelf.Ren:=⟨fun | 109=>172 | n=>n,fun | 31=>40 | 9=>9 | 3=>3 | 0=>0 | 4=>4 | n=>n,fun | n=>n⟩
theorem Tryz.lays109:Go.Proofs.Lays.n109 Tryz.prog Tryz.lays109_ren:={
 mixed:=by kernel_rfl
 f109:=Tryz.func172.trans (congrArg some (by kernel_rfl))
 t0:=Tryz.underlying0
 a0:=Tryz.isAgg0
 z0:=Tryz.sizeOf0
 v0:=Tryz.zeroValue0
 t3:=Tryz.underlying3
 a3:=Tryz.isAgg3
 z3:=Tryz.sizeOf3
 v3:=Tryz.zeroValue3
 t4:=Tryz.underlying4
 a4:=Tryz.isAgg4
 z4:=Tryz.sizeOf4
 v4:=Tryz.zeroValue4
 t9:=Tryz.underlying9
 a9:=Tryz.isAgg9
 z9:=Tryz.sizeOf9
 v9:=Tryz.zeroValue9
 t31:=Tryz.underlying40
 a31:=Tryz.isAgg40
 z31:=Tryz.sizeOf40
 v31:=Tryz.zeroValue40 }
open Go.Lib in
theorem Tryz.slices_Index_string(b a n c:Nat)(f:List ByteArray)(x:ByteArray)(w:World)(g:n≤f.length)(d:n≤9223372036854775807)(hc:∀j,j<f.length→w.cell? ⟨b,a+j,none⟩=some (.string (f.getD j ByteArray.empty))) :
  Calls Tryz.prog 172 #[.slice (some ⟨b,a,none⟩) n c,.string x] w fun e w'=>e=.returned (.int .i64 (Lib.idxOfS (f.take n) x))∧w'=w:=Any.slices_Index_string Tryz.lays109 b a n c f x w g d hc
def Tryz.lays110_ren:Go.Shelf.Ren:=⟨fun | 110=>156 | 109=>172 | n=>n,fun | 31=>40 | 9=>9 | 4=>4 | 3=>3 | 0=>0 | n=>n,fun | n=>n⟩
theorem Tryz.lays110:Go.Proofs.Lays.n110 Tryz.prog Tryz.lays110_ren:={
 mixed:=by kernel_rfl
 f109:=Tryz.func172.trans (congrArg some (by kernel_rfl))
 f110:=Tryz.func156.trans (congrArg some (by kernel_rfl))
 t0:=Tryz.underlying0
 a0:=Tryz.isAgg0
 z0:=Tryz.sizeOf0
 v0:=Tryz.zeroValue0
 t3:=Tryz.underlying3
 a3:=Tryz.isAgg3
 z3:=Tryz.sizeOf3
 v3:=Tryz.zeroValue3
 t4:=Tryz.underlying4
 a4:=Tryz.isAgg4
 z4:=Tryz.sizeOf4
 v4:=Tryz.zeroValue4
 t9:=Tryz.underlying9
 a9:=Tryz.isAgg9
 z9:=Tryz.sizeOf9
 v9:=Tryz.zeroValue9
 t31:=Tryz.underlying40
 a31:=Tryz.isAgg40
 z31:=Tryz.sizeOf40
 v31:=Tryz.zeroValue40 }
open Go.Lib in
theorem Tryz.slices_Contains_string(b a n c:Nat)(f:List ByteArray)(x:ByteArray)(w:World)(g:n≤f.length)(d:n≤9223372036854775807)(hc:∀j,j<f.length→w.cell? ⟨b,a+j,none⟩=some (.string (f.getD j ByteArray.empty))) :
  Calls Tryz.prog 156 #[.slice (some ⟨b,a,none⟩) n c,.string x] w fun e w'=>e=.returned (.bool (Lib.containsS (f.take n) x))∧w'=w:=Any.slices_Contains_string Tryz.lays110 b a n c f x w g d hc
def Tryz.lays113_ren:Go.Shelf.Ren:=⟨fun | 113=>103 | n=>n,fun | 28=>48 | 3=>3 | 4=>4 | 9=>9 | 20=>20 | 0=>0 | n=>n,fun | n=>n⟩
theorem Tryz.lays113:Go.Proofs.Lays.n113 Tryz.prog Tryz.lays113_ren:={
 mixed:=by kernel_rfl
 f113:=Tryz.func103.trans (congrArg some (by kernel_rfl))
 t0:=Tryz.underlying0
 a0:=Tryz.isAgg0
 z0:=Tryz.sizeOf0
 v0:=Tryz.zeroValue0
 t3:=Tryz.underlying3
 a3:=Tryz.isAgg3
 z3:=Tryz.sizeOf3
 v3:=Tryz.zeroValue3
 t4:=Tryz.underlying4
 a4:=Tryz.isAgg4
 z4:=Tryz.sizeOf4
 v4:=Tryz.zeroValue4
 t9:=Tryz.underlying9
 a9:=Tryz.isAgg9
 z9:=Tryz.sizeOf9
 v9:=Tryz.zeroValue9
 t20:=Tryz.underlying20
 a20:=Tryz.isAgg20
 z20:=Tryz.sizeOf20
 v20:=Tryz.zeroValue20
 t28:=Tryz.underlying48
 a28:=Tryz.isAgg48
 z28:=Tryz.sizeOf48
 v28:=Tryz.zeroValue48 }
open Go.Lib in
theorem Tryz.slices_Max_int(b a n c:Nat)(f:List Int)(w:World)(g:0<n)(h:n≤f.length)(d:n≤9223372036854775807)(hc:∀j,j<f.length→w.cell? ⟨b,a+j,none⟩=some (.int .i64 (f.getD j 0))) :
  Calls Tryz.prog 103 #[.slice (some ⟨b,a,none⟩) n c] w fun e w'=>e=.returned (.int .i64 (Lib.maxOf (f.take n)))∧w'=w:=Any.slices_Max_int Tryz.lays113 b a n c f w g h d hc
def Tryz.lays193_ren:Go.Shelf.Ren:=⟨fun | 193=>96 | n=>n,fun | 31=>40 | 9=>9 | 4=>4 | 3=>3 | 0=>0 | n=>n,fun | n=>n⟩
theorem Tryz.lays193:Go.Proofs.Lays.n193 Tryz.prog Tryz.lays193_ren:={
 mixed:=by kernel_rfl
 f193:=Tryz.func96.trans (congrArg some (by kernel_rfl))
 t0:=Tryz.underlying0
 a0:=Tryz.isAgg0
 z0:=Tryz.sizeOf0
 v0:=Tryz.zeroValue0
 t3:=Tryz.underlying3
 a3:=Tryz.isAgg3
 z3:=Tryz.sizeOf3
 v3:=Tryz.zeroValue3
 t4:=Tryz.underlying4
 a4:=Tryz.isAgg4
 z4:=Tryz.sizeOf4
 v4:=Tryz.zeroValue4
 t9:=Tryz.underlying9
 a9:=Tryz.isAgg9
 z9:=Tryz.sizeOf9
 v9:=Tryz.zeroValue9
 t31:=Tryz.underlying40
 a31:=Tryz.isAgg40
 z31:=Tryz.sizeOf40
 v31:=Tryz.zeroValue40 }
open Go.RowKit Go.Lib in
theorem Tryz.slices_Equal_string(g l n c h o m d:Nat)(xs f:List ByteArray)(w:World)(hx:n≤xs.length)(p:m≤f.length)(b:n≤9223372036854775807)(a:m≤9223372036854775807)(i:∀j,j<xs.length→w.cell? ⟨g,l+j,none⟩=some (.string (xs.getD j ByteArray.empty)))(k:∀j,j<f.length→w.cell? ⟨h,o+j,none⟩=some (.string (f.getD j ByteArray.empty))) :
  Calls Tryz.prog 96 #[.slice (some ⟨g,l,none⟩) n c,.slice (some ⟨h,o,none⟩) m d] w fun e w'=>e=.returned (.bool (decide (xs.take n=f.take m)))∧∃q,w'=w.drewN q:=Any.slices_Equal_string Tryz.lays193 g l n c h o m d xs f w hx p b a i k
open Go.RowKit Go.Lib in
theorem Tryz.slices_Equal_string_empty(b f:Option Addr)(c m d:Nat)(w:World)(a:m≤9223372036854775807) :
  Calls Tryz.prog 96 #[.slice b 0 c,.slice f m d] w fun e w'=>e=.returned (.bool (decide (m=0)))∧w'=w:=Any.slices_Equal_string_empty Tryz.lays193 b f c m d w a
def Tryz.laysNm215_ren:Go.Shelf.Ren:=⟨fun | 15=>78 | n=>n,fun | 22=>48 | 3=>3 | 4=>4 | n=>n,fun | n=>n⟩
theorem Tryz.laysNm215:Go.Proofs.Lays2.n15 Tryz.prog Tryz.laysNm215_ren:={
 mixed:=by kernel_rfl
 f15:=Tryz.func78.trans (congrArg some (by kernel_rfl))
 t3:=Tryz.underlying3
 a3:=Tryz.isAgg3
 z3:=Tryz.sizeOf3
 v3:=Tryz.zeroValue3
 t4:=Tryz.underlying4
 a4:=Tryz.isAgg4
 z4:=Tryz.sizeOf4
 v4:=Tryz.zeroValue4
 t22:=Tryz.underlying48
 a22:=Tryz.isAgg48
 z22:=Tryz.sizeOf48
 v22:=Tryz.zeroValue48
 i3:=by kernel_rfl }
open Go.RowKit Go.Lib in
theorem Tryz.slices_Clone_int(b a n c:Nat)(f:List Int)(w:World)(g:n≤f.length)(d:n*8≤140737488355328)(hc:∀j,j<f.length→w.cell? ⟨b,a+j,none⟩=some (.int .i64 (f.getD j 0))) :
  Calls Tryz.prog 78 #[.slice (some ⟨b,a,none⟩) n c] w fun e w'=>∃v',e=.returned v'∧w'.ownsRow w.heap.size 3 1 v' n ((f.take n).map (Value.int .i64))∧v'≠.slice none 0 0∧Below w.heap.size w w':=Any.slices_Clone_int Tryz.laysNm215 b a n c f w g d hc
open Go.RowKit Go.Lib in
theorem Tryz.slices_Clone_int_nil(n c:Nat)(w:World) :
  Calls Tryz.prog 78 #[.slice none n c] w fun e w'=>e=.returned (.slice none 0 0)∧w'=w:=Any.slices_Clone_int_nil Tryz.laysNm215 n c w
def Tryz.laysNm220_ren:Go.Shelf.Ren:=⟨fun | 20=>118 | n=>n,fun | 22=>48 | 3=>3 | 4=>4 | 0=>0 | n=>n,fun | n=>n⟩
theorem Tryz.laysNm220:Go.Proofs.Lays2.n20 Tryz.prog Tryz.laysNm220_ren:={
 mixed:=by kernel_rfl
 f20:=Tryz.func118.trans (congrArg some (by kernel_rfl))
 t0:=Tryz.underlying0
 a0:=Tryz.isAgg0
 z0:=Tryz.sizeOf0
 v0:=Tryz.zeroValue0
 t3:=Tryz.underlying3
 a3:=Tryz.isAgg3
 z3:=Tryz.sizeOf3
 v3:=Tryz.zeroValue3
 t4:=Tryz.underlying4
 a4:=Tryz.isAgg4
 z4:=Tryz.sizeOf4
 v4:=Tryz.zeroValue4
 t22:=Tryz.underlying48
 a22:=Tryz.isAgg48
 z22:=Tryz.sizeOf48
 v22:=Tryz.zeroValue48
 i3:=by kernel_rfl }
open Go.RowKit Go.Lib Go.Sort in
theorem Tryz.slices_Compact_int(a b cap:Nat)(c:List Int)(w:World)(g:Holds (Value.int .i64) w a b c.toArray)(f:c.length≤9223372036854775807)(d:c.length≤cap) :
  Calls Tryz.prog 118 #[.slice (some ⟨a,b,none⟩) c.length cap] w fun e w'=>e=.returned (.slice (some ⟨a,b,none⟩) (Lib.compact c).length cap)∧∃q,w'=putRow (Value.int .i64) (Sort.ahead w q) a b (Lib.compact c++List.replicate (c.length-(Lib.compact c).length) 0).toArray:=Any.slices_Compact_int Tryz.laysNm220 a b cap c w g f d
def Tryz.lays194_ren:Go.Shelf.Ren:=⟨fun | 194=>159 | n=>n,fun | 31=>40 | 9=>9 | 3=>3 | 4=>4 | 0=>0 | n=>n,fun | n=>n⟩
theorem Tryz.lays194:Go.Proofs.Lays.n194 Tryz.prog Tryz.lays194_ren:={
 mixed:=by kernel_rfl
 f194:=Tryz.func159.trans (congrArg some (by kernel_rfl))
 t0:=Tryz.underlying0
 a0:=Tryz.isAgg0
 z0:=Tryz.sizeOf0
 v0:=Tryz.zeroValue0
 t3:=Tryz.underlying3
 a3:=Tryz.isAgg3
 z3:=Tryz.sizeOf3
 v3:=Tryz.zeroValue3
 t4:=Tryz.underlying4
 a4:=Tryz.isAgg4
 z4:=Tryz.sizeOf4
 v4:=Tryz.zeroValue4
 t9:=Tryz.underlying9
 a9:=Tryz.isAgg9
 z9:=Tryz.sizeOf9
 v9:=Tryz.zeroValue9
 t31:=Tryz.underlying40
 a31:=Tryz.isAgg40
 z31:=Tryz.sizeOf40
 v31:=Tryz.zeroValue40 }
open Go.RowKit Go.Lib Go.Sort in
theorem Tryz.slices_Compact_string(a b cap:Nat)(c:List (List UInt8))(w:World)(g:Holds encStr w a b c.toArray)(f:c.length≤9223372036854775807)(d:c.length≤cap) :
  Calls Tryz.prog 159 #[.slice (some ⟨a,b,none⟩) c.length cap] w fun e w'=>e=.returned (.slice (some ⟨a,b,none⟩) (Lib.compact c).length cap)∧∃q,w'=putRow encStr (Sort.ahead w q) a b (Lib.compact c++List.replicate (c.length-(Lib.compact c).length) []).toArray:=Any.slices_Compact_string Tryz.lays194 a b cap c w g f d
open Go.RowKit Go.Lib in
theorem Tryz.slices_Equal_string_lens(b f:Option Addr)(n c m d:Nat)(w:World)(a:n≠m) :
  Calls Tryz.prog 96 #[.slice b n c,.slice f m d] w fun e w'=>e=.returned (.bool false)∧w'=w:=Any.slices_Equal_string_lens Tryz.lays193 b f n c m d w a
end Go.Proofs
namespace Go.Proofs.YtbillnhcmkpohaaGreatDoor
open Go.RowKit
theorem rM(A:Option Addr)(l:List Int)(B cap:Nat)(x:Int)(w:World)(f:l.length≤maxLen)(c:am iv w B A l) :
  Cs 177 #[.slice A l.length cap,iv x] w fun e w'=>e=.returned (.bool (l.contains x))∧w'=w:=by
 cases l with
 | nil=>exact Tryz.slices_Contains_int_empty A cap x w
 | cons y l =>
  obtain⟨b,a,rfl,_,_⟩:=c 0 y rfl;have h:=Tryz.slices_Contains_int b a (y::l).length cap (y::l) x w (lr _) (by unfold maxLen at f;omega) (fun j hj=>by
   obtain⟨z,d⟩:∃z,(y::l)[j]?=some z:=⟨_,gE hj⟩;obtain⟨b',off',e,_,hc⟩:=c j z d;injection e with e
   injection e with e1 e2
   subst e1 e2;rw[hc,List.getD_eq_getElem?_getD,d];rfl)
  rw[List.take_length]at h;exact h
def bC(but:Int)(m:Nat):List Int:=((List.range m).map fun(i:Nat)=>(i:Int)).filter fun i=>i != but
theorem vb(a:Int)(m:Nat):bC a (m+1)=bC a m++(if(m:Int)=a then[]else[(m:Int)]):=by
 unfold bC;rw[List.range_succ,List.map_append,List.filter_append]
 congr 1
 by_cases h:(m:Int)=a<;>simp[h]
theorem rN(a:Int)(m:Nat):(bC a m).length≤m:=by unfold bC;exact lT (List.length_filter_le _ _) (by simp)
theorem Tryz.info3w:(Tryz.prog.info? 3).map (fun i=>(i.zero,i.size,i.bytes))=some (some (iv 0),1,8):=by kernel_rfl
theorem DN(y:ar)(A:aI)(a:Int)(w:World)(t:y.papers.length≤10) :
  Cs 75 #[.agg (ak y A),iv a] w fun e w'=>∃v,e=.returned v∧BW w w'∧w'.ownsRow w.heap.size 3 1 v (bC a y.papers.length).length ((bC a y.papers.length).map iv):=by
 obtain⟨f,p,o⟩:=nA w (.cells (ak y A) 74);obtain⟨g,hg⟩:=ex w.heap.size;have q1:aa f g 74 (ak y A):=by rw[←p,←hg];exact aa.new w 74 _
 have r:=Lq o;have hz:w.heap.size≤f.heap.size:=o.size;have x3:=q1.c 3;have hgl:=q1.lt;obtain⟨n,hnn⟩:=ex y.papers.length;rw[hnn]at t x3;rw[hnn];clear o q1;go_enter Tryz.func75,Tryz.ntmps75
 go_wp2_with fail;go_loopw [4,10] (fun v i wr=>∃k:Nat,k≤n∧i=iv k∧Hid (wr.ownsRow f.heap.size 3 1 v (bC a k).length ((bC a k).map iv))∧Hid (BW f wr)) (fun _ i _=>n-(intOf i).toNat)
 case atStart=>exact⟨0,Nat.zero_le _,rfl,Lq (World.ownsRow_nil _ _ _ _),Lq (bR _)⟩
 case round =>
  obtain⟨k,x,rfl,m,b⟩:=hrel;have hk0:=nn k;by_cases hlt:k<n
  case neg =>
   obtain rfl:k=n:=by omega
   go_wp2_with fail;go_ret
   exact⟨_,rfl,bT r.out b.out,dv m.out hz⟩
  have s:(k:Int)<(n:Int):=by omega
  by_cases hb:(k:Int)=a
  ·have q:((k:Int) != a)=false:=by simp[hb]
   have l:=Lq hb;clear hb;go_wp2_with fail;go_roundw
   case rel=>exact⟨k+1,hlt,by go_num,Lq (by rw[vb,if_pos l.out];simpa using m.out),b⟩
   case measure=>simp[intOf];omega
  ·have q:((k:Int) != a)=true:=by simpa using hb
   have h:=Lq (aN m.out (bA (bR wr) (.cells #[iv k] 3)));have HBa:=Lq (bA b.out (.cells #[iv k] 3));obtain⟨i3,hi3,hz0,hz1,hz2⟩:=info_parts Tryz.info3w;have hln:=rN a k;have l:=Lq hb;clear hb;go_wp2_with (at_builtin;refine wpList_append_own_at _ rfl _ _ 48 rfl f.heap.size 3 i3 _ 1 8 Tryz.underlying48 hi3 hz0 hz1 hz2 rfl (by decide) _ _ _ rfl h.out ⟨wr.heap.size,0,none⟩ 1 1 [iv k] rfl rfl (fW _ _ _) ?d2 ?d3 ?d4 ?d5 ?_)
   case d2=>simp[Value.oneCell']
   case d3=>unfold maxLen;omega
   case d4=>omega
   case d5=>(try simp only[World.size_alloc]);have:=b.out.size;omega
   intro z u d j _ _;have HB2:Hid (BW f u):=Lq (cC h.out j (lr _) HBa.out);have OW2:=Lq d;clear d j hi3 hz0 hz1 hz2;go_wp2_with fail;go_roundw
   case rel=>exact⟨k+1,hlt,by go_num,Lq (by rw[vb,if_neg l.out];simpa using OW2.out),HB2⟩
   case measure=>simp[intOf];omega
def jM(y:ar)(l:List Int)(i:Nat):Bool:=match y.papers[i]? with
 | none=>false
 | some p=>decide ((i:Int)<p.copy)&&(match y.papers[p.copy.toNat]? with
  | none=>false
  | some q=>(p.kilos != q.kilos)&&!l.contains (i:Int)&&!l.contains p.copy)
theorem DO(y:ar)(A:aI)(B i:Nat)(p:cT)(L:Option Addr)(l:List Int)(cap:Nat)(w:World)(H:aO w B y A)(G:B≤w.heap.size)(n:y.papers[i]?=some p)(hc:p.copy<y.papers.length)(I:l.length≤maxLen)(v:am iv w B L l) :
  Cs 114 #[.agg (ak y A),iv i,.slice L l.length cap] w (Rt w (.bool (jM y l i))):=by
 obtain⟨s,z,m⟩:=nA w (.cells (ak y A) 74);obtain⟨g,hg⟩:=ex w.heap.size;have q1:aa s g 74 (ak y A):=by rw[←z,←hg];exact aa.new w 74 _
 have o:=Lq m;have hgl:=q1.lt;have H1:=H.below m G;obtain⟨b,off,hA,_,_,_,_,c3,c4⟩:=H1.paper n;have x3:=q1.c 3;rw[hA]at x3;have hil:i<y.papers.length:=(lG n);have hmx:=H.la;unfold maxLen at hmx;have hi0:=nn i;have hiz:(i:Int)<(y.papers.length:Int):=by omega
 have r:Hid (∀(x:Int) W,BW s W→Cs 177 #[.slice L l.length cap,iv x] W fun e w'=>e=.returned (.bool (l.contains x))∧w'=W):=Lq fun x W a=>rM L l B cap x W I (v.below (bT m a) G)
 obtain⟨f,d⟩:=ex p.copy;obtain⟨ki,hki⟩:=ex p.kilos;have hd:jM y l i=(decide ((i:Int)<f)&&(match y.papers[f.toNat]? with | none=>false | some q=>(ki != q.kilos)&&!l.contains (i:Int)&&!l.contains f)):=by unfold jM;rw[n];simp only[d,hki]
 rw[hd];rw[d]at c4 hc;rw[hki]at c3;by_cases h0:(i:Int)<f
 case neg =>
  have u:decide ((i:Int)<f)=false:=decide_eq_false h0;rw[u,Bool.false_and];clear H n m q1 d hA H1 v hki hd r;go_enter Tryz.func114,Tryz.ntmps114
  go_wp2_with fail;go_quiet (fail)
  go_wp2_with fail;go_ret
  exact⟨rfl,cY o.out _⟩
 have u:decide ((i:Int)<f)=true:=decide_eq_true h0;obtain⟨k,rfl⟩:∃k:Nat,f=(k:Int):=⟨f.toNat,by omega⟩
 have C:k<y.papers.length:=by omega
 obtain⟨q,D⟩:=gX (l:=y.papers) (i:=k) C;obtain⟨b',off',hA',_,_,_,_,d3,_⟩:=H1.paper D;rw[hA]at hA';injection hA' with hA'
 injection hA' with e1 e2
 subst e1 e2;rw[u,Bool.true_and,Int.toNat_natCast,D];obtain⟨E,j⟩:=ex q.kilos;rw[j]at d3;simp only[j];have hk0:=nn k;have hkz:(k:Int)<(y.papers.length:Int):=by omega
 obtain⟨F,h⟩:=ex (l.contains (i:Int));obtain⟨ck,hck⟩:=ex (l.contains (k:Int));rw[h,hck];have HCi:Hid (∀W,BW s W→Cs 177 #[.slice L l.length cap,iv i] W fun e w'=>e=.returned (.bool F)∧w'=W):=Lq fun W a=>h▸r.out i W a
 have t:Hid (∀W,BW s W→Cs 177 #[.slice L l.length cap,iv k] W fun e w'=>e=.returned (.bool ck)∧w'=W):=Lq fun W a=>hck▸r.out k W a
 clear H n m q1 d hA H1 v hki hd r D j h hck hc;by_cases hkk:ki=E
 ·have a:(ki != E)=false:=by simp[hkk]
  rw[a];clear hkk;go_enter Tryz.func114,Tryz.ntmps114
  go_wp2_with fail;go_quiet (fail)
  go_wp2_with fail;go_ret
  exact⟨rfl,cY o.out _⟩
 have a:(ki != E)=true:=by simpa using hkk
 rw[a];clear hkk;cases F
 ·cases ck;all_goals
   go_enter Tryz.func114,Tryz.ntmps114
   go_wp2_with fail;go_quiet ((go_at_call 177;first | exact Calls.quiet_of_same (HCi.out _ (cY (bR _) _)) | exact Calls.quiet_of_same (t.out _ (cY (bR _) _))))
   go_wp2_with fail;go_ret
   exact⟨rfl,cY o.out _⟩
 ·go_enter Tryz.func114,Tryz.ntmps114
  go_wp2_with fail;go_quiet ((go_at_call 177;exact Calls.quiet_of_same (HCi.out _ (cY (bR _) _))))
  go_wp2_with fail;go_ret
  exact⟨rfl,cY o.out _⟩
def iU(y:ar)(l:List Int)(m:Nat):Bool:=(List.range m).any (jM y l)
theorem rO(y:ar)(l:List Int)(m:Nat):iU y l (m+1)=(iU y l m||jM y l m):=by unfold iU;rw[List.range_succ,List.any_append];simp
def vd(y:ar)(l:List Int)(w:World)(e:Ending)(w':World):Prop:=∃r:Int,e=.returned (iv r)∧BW w w'∧((r = -1∧iU y l y.papers.length=false)∨∃k:Nat,r=k∧k<y.papers.length∧iU y l k=false∧jM y l k=true)
theorem ve(y:ar)(A:aI)(B:Nat)(L:Option Addr)(l:List Int)(cap:Nat)(w:World)(H:aO w B y A)(j:B≤w.heap.size)(hc:∀(i:Nat) (p:cT),y.papers[i]?=some p→p.copy<y.papers.length)(r:l.length≤maxLen)(o:am iv w B L l) :
  Cs 72 #[.agg (ak y A),.slice L l.length cap] w (vd y l w):=by
 obtain⟨h,m,b⟩:=nA w (.cells (ak y A) 74);obtain⟨g,hg⟩:=ex w.heap.size;have q1:aa h g 74 (ak y A):=by rw[←m,←hg];exact aa.new w 74 _
 have n:=Lq b;have HQ:=Lq q1;have HC:Hid (∀(i:Nat) (p:cT) W,BW h W→y.papers[i]?=some p→Cs 114 #[.agg (ak y A),iv i,.slice L l.length cap] W (Rt W (.bool (jM y l i)))):=Lq fun i p W hb d=>DO y A B i p L l cap W (H.below (bT b hb) j) (lT j (bT b hb).size) d (hc i p d) r (o.below (bT b hb) j)
 have c:=H.la;unfold maxLen at c;have HMX:=Lq c;obtain⟨x0,x1,x2,x3,x4⟩:=q1.c5;have hgl:=q1.lt;clear H hc o b q1;go_enter Tryz.func72,Tryz.ntmps72
 go_wp2_with fail;clear x0 x1 x2 x3 x4;go_loopw [10] (fun i wr=>∃k:Nat,k≤y.papers.length∧i=iv k∧Hid (iU y l k=false)∧Hid (BW h wr)) (fun i _=>y.papers.length-(intOf i).toNat)
 case atStart=>exact⟨0,Nat.zero_le _,rfl,Lq rfl,Lq (bR _)⟩
 case round =>
  obtain⟨k,s,rfl,f,a⟩:=hrel;have hk0:=nn k;have q1:=HQ.out.keep a.out;obtain⟨x0,x1,x2,x3,x4⟩:=q1.c5;have hgl:=q1.lt;clear q1;by_cases hlt:k<y.papers.length
  case neg =>
   obtain rfl:k=y.papers.length:=by omega
   go_wp2_with fail;go_ret
   exact⟨-1,rfl,bT n.out a.out,.inl ⟨rfl,f.out⟩⟩
  have q:(k:Int)<(y.papers.length:Int):=by omega
  obtain⟨p,d⟩:=gX (l:=y.papers) (i:=k) hlt;obtain⟨bd,hbd⟩:=ex (jM y l k);have HD:Hid (Cs 114 #[.agg (ak y A),iv k,.slice L l.length cap] wr (Rt wr (.bool bd))):=Lq (hbd▸HC.out k p wr a.out d);have HBD:=Lq hbd;clear d hbd;go_wp2_with fail;refine HD.out.mono ?_;rintro e w2 ⟨rfl,hb⟩;have HB2:=Lq (bT a.out hb);clear hb HD x0 x1 x2 x3 x4 hgl;cases bd
  ·go_wp2_with fail;go_roundw
   case rel=>exact⟨k+1,hlt,by go_num,Lq (by rw[rO,f.out,HBD.out];rfl),HB2⟩
   case measure=>simp[intOf];omega
  ·go_wp2_with fail;go_ret
   exact⟨k,rfl,bT n.out HB2.out,.inr ⟨k,rfl,hlt,f.out,HBD.out⟩⟩
end Go.Proofs.YtbillnhcmkpohaaGreatDoor
namespace Go.Proofs.YtbillnhcmkpohaaGreatDoor
def dA(l:List cM)(k p:Int):Option (Int×Int):=(l.find? (gP k p)).map fun c=>(c.lo,c.hi)
def mo(y:ar)(k:Int)(at':Nat):List Ed :=
 [⟨y.places.length+1,at',((dA y.first k at').getD (0,0)).1,((dA y.first k at').getD (0,0)).2,((dA y.first k at').getD (0,0)).1⟩,
  ⟨at',y.places.length+1,((dA y.last k at').getD (0,1099511627776)).1,((dA y.last k at').getD (0,1099511627776)).2,((dA y.last k at').getD (0,1099511627776)).1⟩]
def mW(i:Nat)(c:Int):List Int:=if c<0 then[(i:Int)]else[min (i:Int) c,max (i:Int) c]
def dB(y:ar)(l:List Int)(i:Nat)(p:cT):Int×Int:=match(mW i p.copy).find? (fun k=>!l.contains k)with
 | none=>(0,1000000)
 | some k=>match y.papers[k.toNat]? with
  | some q=>(q.kilos,q.kilos)
  | none=>(0,0)
def bZ(y:ar)(a:Int):Nat:=if a = -1 then y.places.length else a.toNat
def kH(y:ar)(k:Int)(l:List Int)(s:List Ed×List Int)(i:Nat):List Ed×List Int:=match y.papers[i]? with
 | none=>s
 | some p=>if p.kind=k∧ju p i=true then
   (s.1++[⟨bZ y p.fr,bZ y p.en,(dB y l i p).1,(dB y l i p).2,(dB y l i p).1⟩],
    if 0≤p.copy then(s.2.set i (s.1.length:Int)).set p.copy.toNat (s.1.length:Int)else s.2.set i (s.1.length:Int))
  else s
def dC(y:ar)(k:Int)(m:Nat):List Ed:=(List.range m).flatMap (mo y k)
def au(y:ar)(k:Int)(l:List Int)(m:Nat):List Ed×List Int:=(List.range m).foldl (kH y k l) (dC y k y.places.length,List.replicate y.papers.length 0)
def ce(y:ar)(k:Int)(l:List Int):List Ed:=(au y k l y.papers.length).1++[⟨y.places.length,y.places.length+1, -1099511627776,1099511627776,0⟩]
def n8(y:ar)(k:Int)(l:List Int):List Int:=(au y k l y.papers.length).2
def fu(y:ar)(l:List Int)(f:Nat):Nat→Option Bool
 | 0=>some true
 | m+1=>match fu y l f m with
  | some true=>(dW (y.places.length+2) f (ce y (m:Int) l)).map Prod.fst
  | r=>r
def cN(y:ar)(l:List Int)(f:Nat):Option Bool:=if iU y l y.papers.length=true then some false else fu y l f y.kinds.length
end Go.Proofs.YtbillnhcmkpohaaGreatDoor
namespace Go.Proofs.YtbillnhcmkpohaaGreatDoor
open Go.RowKit
section
variable{n:Nat}
theorem cJ{P:Program}{ops:Array Oper}{Q:Exit→Act→World→Prop}{S:World→Prop}{late:Nat→Bool}{b:Array Bool}{a:Act}{c:Code}{r:Nat}{V:World}(f:∀W,BW V W→S W)(h:∀V0,Hid (BW V V0)→S V0→dO P .any ops (NoPanic Q) S late n b a V0)(i:P.follows .mixedOrders=true:=by kernel_rfl)(hc:c=Code.region r ops true:=by kernel_rfl)(j:ops.size=n:=by kernel_rfl)(g:Array.replicate n false=b:=by
   simp only[Array.replicate_succ,Array.replicate_zero,List.push_toArray,List.nil_append,List.cons_append];rfl):c.wp P Q a V:=by
 subst hc g j;have d:=fc (bR V);exact wp_region_noPanic (lZ i (h _ (Lq d) (f _ d)))
noncomputable def vh:Array Oper:=aU (aF Tryz.f137 9)
def mq(y:ar)(l bl:List Int):Int×Int:=match bl.find? (fun k=>!l.contains k)with
 | none=>(0,1000000)
 | some k=>match y.papers[k.toNat]? with
  | some q=>(q.kilos,q.kilos)
  | none=>(0,0)
theorem vj{y:ar}{l bl:List Int}(h:∀x∈bl,l.contains x=true):mq y l bl=(0,1000000):=by unfold mq;rw[List.find?_eq_none.2 fun x hx=>by rw[h x hx];decide]
theorem vm{y:ar}{l bl:List Int}{k:Nat}{q:cT}{b:Int}(c:bl[k]?=some (n:Int))(hc:l.contains (n:Int)=false)(h:∀x∈bl.take k,l.contains x=true)(g:y.papers[n]?=some q)(a:q.kilos=b):mq y l bl=(b,b):=by
 have d:bl.find? (fun k=>!l.contains k)=some (n:Int):=by
  have f:k<bl.length:=(lG c);have e:bl=bl.take k++(n:Int)::bl.drop (k+1):=by
   conv=>lhs;rw[←List.take_append_drop k bl]
   rw[List.drop_eq_getElem_cons f,(List.getElem?_eq_some_iff.1 c).2]
  rw[e,List.find?_append,List.find?_eq_none.2 fun x hx=>by rw[h x hx];decide,List.find?_cons_of_pos (by rw[hc];rfl)]
  rfl
 unfold mq;rw[d];simp only[Int.toNat_natCast,g,a]
theorem pG(y:ar)(A:aI)(B i:Nat)(p:cT)(L:Option Addr)(l:List Int)(cap:Nat)(w:World)(H:aO w B y A)(V:B≤w.heap.size)(X:y.papers[i]?=some p)(hc:p.copy<y.papers.length)(hm:l.length≤maxLen)(hL:am iv w B L l) :
  Cs 137 #[.agg (ak y A),iv i,.slice L l.length cap] w (Rt w (.agg #[iv (dB y l i p).1,iv (dB y l i p).2])):=by
 obtain⟨Z,N,U⟩:=nA w (.cells (ak y A) 74);obtain⟨g3,hg3⟩:=ex w.heap.size;obtain⟨W1,hW1,b1⟩:=nA Z (.cells #[iv 0,iv 0] 33);obtain⟨g6,hg6⟩:=ex Z.heap.size;obtain⟨W2,hW2,b2⟩:=nA W1 (.cells #[iv i] 3);obtain⟨g7,hg7⟩:=ex W1.heap.size;have q3:aa W2 g3 74 (ak y A):=by rw[←hW2,←hW1];exact aa.alloc (aa.alloc (by rw[←N,←hg3];exact aa.new w 74 _) _) _
 have T:aa W2 g6 33 #[iv 0,iv 0]:=by rw[←hW2];exact aa.alloc (by rw[←hW1,←hg6];exact aa.new Z 33 _) _
 have Y:aa W2 g7 3 #[iv i]:=by rw[←hW2,←hg7];exact aa.new W1 3 _
 have s:Hid (w.heap.size≤g6):=Lq (by rw[←hg6];exact U.size)
 have C:=bT (bT U b1) b2;obtain⟨b,off,E,_,_,_,_,_,c4⟩:=(H.below C V).paper X;have hil:i<y.papers.length:=(lG X);have hmx:=H.la;unfold maxLen at hmx;have hi0:=nn i;have hiz:(i:Int)<(y.papers.length:Int):=by omega
 have HY:=Lq H;have HML:=Lq hm;have HLR:=Lq hL;have HZB:=Lq V;have hre:dB y l i p=mq y l (mW i p.copy):=rfl;rw[hre];obtain⟨cy,hcy⟩:=ex p.copy;rw[hcy]at c4 hc ⊢;obtain⟨x0,x1,x2,x3,x4⟩:=q3.c5;rw[E]at x3;obtain⟨l3,l6⟩:_∧_:=⟨q3.lt,T.lt⟩;by_cases h0:cy<0
 ·have t:Hid (mW i cy=[(i:Int)]):=Lq (if_pos h0);have K:Hid (∀x∈([(i:Int)]:List Int),0≤x∧x<y.papers.length):=Lq (by simp;omega)
  have J:Hid (am iv W2 W2.heap.size (some ⟨g7,0,none⟩) [(i:Int)]):=Lq fun k x hx=>by
   cases k with
   | zero=>simp at hx;subst hx;exact⟨g7,0,rfl,Y.lt,Y.c 0⟩
   | succ k=>simp at hx
  have m:=Lq C;have HQ3:=Lq q3;have HQ6:=Lq T;clear H V X hc hm hL U b1 b2 q3 T Y C hre hcy E;go_enter Tryz.func137,Tryz.ntmps137
  go_wp2_with fail;clear x0 x1 x2 x3 x4 c4 l3 l6 N hW1 hW2 hg3 hg6;go_loopw [31,10] (fun j u wr=>∃k:Nat,k≤1∧j=iv k∧Hid (∀x∈([(i:Int)]:List Int).take k,l.contains x=true)∧Hid (BW W2 wr)) (fun j _ _=>1-(intOf j).toNat)
  case atStart=>exact⟨0,Nat.zero_le _,rfl,Lq (by simp),Lq (bR _)⟩
  case round =>
   obtain⟨k,hk,rfl,I,a⟩:=hrel;have hk0:=nn k;by_cases hlt:k<1
   case neg =>
    obtain rfl:k=1:=by omega
    have d:=HQ6.out.keep a.out;obtain⟨f0,f1⟩:=d.f2;obtain⟨e0,e1⟩:=d.c2;have el:=d.lt;have qb:=(d.set_ 0 (iv 0)).set_ 1 (iv 1000000);simp only[List.setIfInBounds_toArray,List.set_cons_zero,List.set_cons_succ]at qb;obtain⟨d0,d1⟩:=qb.c2;have HR0:=Lq (vj (y:=y) (l:=l) (bl:=[(i:Int)]) I.out);clear d qb;go_wp2_with fail;exact bodyPost_ret (v:=.agg #[iv 0,iv 1000000]) (by simp[results,Tryz.results137,go_sem,d0,d1]) rfl ⟨by rw[t.out,HR0.out],aH (aH (bT m.out a.out) s.out (p:=⟨g6,0,none⟩) _) s.out (p:=⟨g6,1,none⟩) _⟩
   have ac:(k:Int)<1:=by omega
   obtain⟨x,hx⟩:∃x,([(i:Int)]:List Int)[k]?=some x:=⟨_,gE hlt⟩;obtain⟨bb,ob,eb,_,hcx⟩:=(J.out.below a.out (lr _)) k x hx;injection eb with eb
   injection eb with eb1 eb2
   subst eb1 eb2;rw[Nat.zero_add]at hcx;have o:=K.out x (List.mem_of_getElem? hx);obtain⟨bc,hbc⟩:=ex (l.contains x);have HD:Hid (Cs 177 #[.slice L l.length cap,iv x] wr fun e w'=>e=.returned (.bool bc)∧w'=wr):=Lq (hbc▸rM L l B cap x wr HML.out (HLR.out.below (bT m.out a.out) HZB.out))
   have D:=Lq (And.intro hx hbc);obtain⟨x0,x1,x2,x3,x4⟩:_∧_∧_∧_∧_:=⟨(HQ3.out.keep a.out).c 0,(HQ3.out.keep a.out).c 1,(HQ3.out.keep a.out).c 2,(HQ3.out.keep a.out).c 3,(HQ3.out.keep a.out).c 4⟩;clear hx hbc;go_wp2_with fail;refine HD.out.mono ?_;rintro e w2 ⟨rfl,rfl⟩;cases bc
   ·obtain⟨q,F⟩:∃q,y.papers[x.toNat]?=some q:=⟨_,gE (by have:=o.2;omega)⟩
    have ad:0≤x:=o.1;have hxz:x<(y.papers.length:Int):=o.2;obtain⟨nx,rfl⟩:∃n:Nat,x=(n:Int):=⟨x.toNat,by omega⟩
    rw[Int.toNat_natCast]at F;obtain⟨f,g,E,ab,_,_,_,O,_⟩:=(HY.out.below (bT m.out a.out) HZB.out).paper F;obtain⟨qk,hqk⟩:=ex q.kilos;rw[hqk]at O;have HV:Hid (mq y l [(i:Int)]=(qk,qk)):=Lq (vm D.out.1 D.out.2 I.out F hqk);rw[E]at x3;have hxz:=hxz;obtain⟨np,hnp⟩:=ex y.papers.length;rw[hnp]at hxz x3;have HNP:=Lq hnp;clear F hqk o E hnp;go_upto_region 9 with fail
    have M:Hid (∀W,BW w2 W→cA W g3 3 (.slice (some ⟨f,g,none⟩) np A.ca)∧cA W f (g+nx*5+3) (iv qk)):=Lq fun W hb=>⟨kC hb x3,kC hb O⟩
    refine cJ (late:=fun k=>k==15) (ops:=vh) (r:=9) (n:=16) (S:=fun W=>cA W g3 3 (.slice (some ⟨f,g,none⟩) np A.ca)∧cA W f (g+nx*5+3) (iv qk)) M.out fun V0 HB0 hHeld=>?_
    refine ae 0 (pT g3 0) ?_;refine ae 1 (pT g3 3) ?_;refine ae 2 (.slice (some ⟨f,g,none⟩) np A.ca) ?_;refine ae 3 (iv nx) ?_;refine ae 4 (pT f (g+nx*5)) ?_;refine ae 5 (pT f (g+nx*5+3)) ?_;refine ae 6 (iv qk) ?_;refine ae 7 (pT g3 0) ?_;refine ae 8 (pT g3 3) ?_;refine ae 9 (.slice (some ⟨f,g,none⟩) np A.ca) ?_;refine ae 10 (iv nx) ?_;refine ae 11 (pT f (g+nx*5)) ?_;refine ae 12 (pT f (g+nx*5+3)) ?_;refine ae 13 (iv qk) ?_;refine ae 14 (.agg #[iv qk,iv qk]) ?_;refine bO 15 fun K' hK=>?_
    have d:=HQ6.out.keep (bT a.out HB0.out);obtain⟨f0,f1⟩:=d.f2;obtain⟨e0,e1⟩:=d.c2;have el:=d.lt;go_simp;have qb:=(d.set_ 0 (iv qk)).set_ 1 (iv qk);simp only[List.setIfInBounds_toArray,List.set_cons_zero,List.set_cons_succ]at qb;have HB9:=Lq (aH (aH (bT (bT m.out a.out) HB0.out) s.out (p:=⟨g6,0,none⟩) (iv qk)) s.out (p:=⟨g6,1,none⟩) (iv qk));refine hK.out _ _ ?_;clear hK f0 f1 e0 e1 el d hHeld;obtain⟨d0,d1⟩:=qb.c2;clear qb;refine dL ?_;go_wp2_with fail;exact bodyPost_ret (v:=.agg #[iv qk,iv qk]) (by simp[results,Tryz.results137,go_sem,d0,d1]) rfl ⟨by rw[t.out,HV.out],HB9.out⟩
   ·go_wp2_with fail;go_roundw
    case rel=>exact⟨k+1,hlt,by go_num,Lq (by rw[List.take_add_one,D.out.1];intro z hz;rcases List.mem_append.1 hz with h | h;exact I.out z h;simp at h;rw[h];exact D.out.2),a⟩
    case measure=>simp[intOf];omega
 ·obtain⟨G,R⟩:=ex (min (i:Int) cy);obtain⟨mx,hmx2⟩:=ex (max (i:Int) cy);obtain⟨W3,hW3,b3⟩:=nA W2 (.cells #[iv G,iv mx] 3);obtain⟨g9,hg9⟩:=ex W2.heap.size;have q9:aa W3 g9 3 #[iv G,iv mx]:=by rw[←hW3,←hg9];exact aa.new W2 3 _
  have t:Hid (mW i cy=[G,mx]):=Lq (by rw[←R,←hmx2];exact if_neg h0)
  have K:Hid (∀x∈([G,mx]:List Int),0≤x∧x<y.papers.length):=Lq (by simp;omega)
  have J:Hid (am iv W3 W3.heap.size (some ⟨g9,0,none⟩) [G,mx]):=Lq fun k x hx=>by
   match k with
   | 0=>simp at hx;subst hx;exact⟨g9,0,rfl,q9.lt,q9.c 0⟩
   | 1=>simp at hx;subst hx;exact⟨g9,0,rfl,q9.lt,q9.c 1⟩
   | k+2=>simp at hx
  have m:=Lq (bT C b3);have HQ3:=Lq (q3.keep b3);have HQ6:=Lq (T.keep b3);clear H V X hc hm hL U b1 b2 q3 T Y C hre hcy E b3 q9;go_enter Tryz.func137,Tryz.ntmps137
  go_wp2_with fail;clear x0 x1 x2 x3 x4 c4 l3 l6 N hW1 hW2 hW3 hg3 hg6 hg9 R hmx2;go_loopw [31,10] (fun j u wr=>∃k:Nat,k≤2∧j=iv k∧Hid (∀x∈([G,mx]:List Int).take k,l.contains x=true)∧Hid (BW W3 wr)) (fun j _ _=>2-(intOf j).toNat)
  case atStart=>exact⟨0,Nat.zero_le _,rfl,Lq (by simp),Lq (bR _)⟩
  case round =>
   obtain⟨k,hk,rfl,I,a⟩:=hrel;have hk0:=nn k;by_cases hlt:k<2
   case neg =>
    obtain rfl:k=2:=by omega
    have d:=HQ6.out.keep a.out;obtain⟨f0,f1⟩:=d.f2;obtain⟨e0,e1⟩:=d.c2;have el:=d.lt;have qb:=(d.set_ 0 (iv 0)).set_ 1 (iv 1000000);simp only[List.setIfInBounds_toArray,List.set_cons_zero,List.set_cons_succ]at qb;obtain⟨d0,d1⟩:=qb.c2;have HR0:=Lq (vj (y:=y) (l:=l) (bl:=[G,mx]) I.out);clear d qb;go_wp2_with fail;exact bodyPost_ret (v:=.agg #[iv 0,iv 1000000]) (by simp[results,Tryz.results137,go_sem,d0,d1]) rfl ⟨by rw[t.out,HR0.out],aH (aH (bT m.out a.out) s.out (p:=⟨g6,0,none⟩) _) s.out (p:=⟨g6,1,none⟩) _⟩
   have ac:(k:Int)<2:=by omega
   obtain⟨x,hx⟩:∃x,([G,mx]:List Int)[k]?=some x:=⟨_,gE hlt⟩;obtain⟨bb,ob,eb,_,hcx⟩:=(J.out.below a.out (lr _)) k x hx;injection eb with eb
   injection eb with eb1 eb2
   subst eb1 eb2;rw[Nat.zero_add]at hcx;have o:=K.out x (List.mem_of_getElem? hx);obtain⟨bc,hbc⟩:=ex (l.contains x);have HD:Hid (Cs 177 #[.slice L l.length cap,iv x] wr fun e w'=>e=.returned (.bool bc)∧w'=wr):=Lq (hbc▸rM L l B cap x wr HML.out (HLR.out.below (bT m.out a.out) HZB.out))
   have D:=Lq (And.intro hx hbc);obtain⟨x0,x1,x2,x3,x4⟩:_∧_∧_∧_∧_:=⟨(HQ3.out.keep a.out).c 0,(HQ3.out.keep a.out).c 1,(HQ3.out.keep a.out).c 2,(HQ3.out.keep a.out).c 3,(HQ3.out.keep a.out).c 4⟩;clear hx hbc;go_wp2_with fail;refine HD.out.mono ?_;rintro e w2 ⟨rfl,rfl⟩;cases bc
   ·obtain⟨q,F⟩:∃q,y.papers[x.toNat]?=some q:=⟨_,gE (by have:=o.2;omega)⟩
    have ad:0≤x:=o.1;have hxz:x<(y.papers.length:Int):=o.2;obtain⟨nx,rfl⟩:∃n:Nat,x=(n:Int):=⟨x.toNat,by omega⟩
    rw[Int.toNat_natCast]at F;obtain⟨f,g,E,ab,_,_,_,O,_⟩:=(HY.out.below (bT m.out a.out) HZB.out).paper F;obtain⟨qk,hqk⟩:=ex q.kilos;rw[hqk]at O;have HV:Hid (mq y l [G,mx]=(qk,qk)):=Lq (vm D.out.1 D.out.2 I.out F hqk);rw[E]at x3;have hxz:=hxz;obtain⟨np,hnp⟩:=ex y.papers.length;rw[hnp]at hxz x3;have HNP:=Lq hnp;clear F hqk o E hnp;go_upto_region 9 with fail
    have M:Hid (∀W,BW w2 W→cA W g3 3 (.slice (some ⟨f,g,none⟩) np A.ca)∧cA W f (g+nx*5+3) (iv qk)):=Lq fun W hb=>⟨kC hb x3,kC hb O⟩
    refine cJ (late:=fun k=>k==15) (ops:=vh) (r:=9) (n:=16) (S:=fun W=>cA W g3 3 (.slice (some ⟨f,g,none⟩) np A.ca)∧cA W f (g+nx*5+3) (iv qk)) M.out fun V0 HB0 hHeld=>?_
    refine ae 0 (pT g3 0) ?_;refine ae 1 (pT g3 3) ?_;refine ae 2 (.slice (some ⟨f,g,none⟩) np A.ca) ?_;refine ae 3 (iv nx) ?_;refine ae 4 (pT f (g+nx*5)) ?_;refine ae 5 (pT f (g+nx*5+3)) ?_;refine ae 6 (iv qk) ?_;refine ae 7 (pT g3 0) ?_;refine ae 8 (pT g3 3) ?_;refine ae 9 (.slice (some ⟨f,g,none⟩) np A.ca) ?_;refine ae 10 (iv nx) ?_;refine ae 11 (pT f (g+nx*5)) ?_;refine ae 12 (pT f (g+nx*5+3)) ?_;refine ae 13 (iv qk) ?_;refine ae 14 (.agg #[iv qk,iv qk]) ?_;refine bO 15 fun K' hK=>?_
    have d:=HQ6.out.keep (bT a.out HB0.out);obtain⟨f0,f1⟩:=d.f2;obtain⟨e0,e1⟩:=d.c2;have el:=d.lt;go_simp;have qb:=(d.set_ 0 (iv qk)).set_ 1 (iv qk);simp only[List.setIfInBounds_toArray,List.set_cons_zero,List.set_cons_succ]at qb;have HB9:=Lq (aH (aH (bT (bT m.out a.out) HB0.out) s.out (p:=⟨g6,0,none⟩) (iv qk)) s.out (p:=⟨g6,1,none⟩) (iv qk));refine hK.out _ _ ?_;clear hK f0 f1 e0 e1 el d hHeld;obtain⟨d0,d1⟩:=qb.c2;clear qb;refine dL ?_;go_wp2_with fail;exact bodyPost_ret (v:=.agg #[iv qk,iv qk]) (by simp[results,Tryz.results137,go_sem,d0,d1]) rfl ⟨by rw[t.out,HV.out],HB9.out⟩
   ·go_wp2_with fail;go_roundw
    case rel=>exact⟨k+1,hlt,by go_num,Lq (by rw[List.take_add_one,D.out.1];intro z hz;rcases List.mem_append.1 hz with h | h;exact I.out z h;simp at h;rw[h];exact D.out.2),a⟩
    case measure=>simp[intOf];omega
end
end Go.Proofs.YtbillnhcmkpohaaGreatDoor
namespace Go.Proofs.YtbillnhcmkpohaaGreatDoor
open Go.RowKit Go.Shelf
section
variable{W X w:World}
attribute [local go_sem] Oper.semAt_some
structure bX(M:Nat→Prop)(w w':World):Prop where
 size:w.heap.size≤w'.heap.size
 same:∀k,¬M k→k<w.heap.size→w'.heap[k]?=w.heap[k]?
theorem bX.refl(M:Nat→Prop)(w:World):bX M w w:=⟨lr _,fun _ _ _=>rfl⟩
theorem bX.trans{M:Nat→Prop}{Y Z:World}(h:bX M X Y)(k:bX M Y Z):bX M X Z :=
 ⟨lT h.size k.size,fun i b a=>(k.same i b (lz a h.size)).trans (h.same i b a)⟩
theorem bX.of_below{M:Nat→Prop}(h:BW W X):bX M W X:=⟨h.size,fun k _ a=>h.block k a⟩
theorem bX.of_only{M:Nat→Prop}{b:Nat}(h:ai W X b)(c:M b):bX M W X:=⟨h.size,fun k d a=>h.block k a (fun e=>d (e▸c))⟩
theorem bX.cell{M:Nat→Prop}{w':World}(h:bX M w w'){b o:Nat}{v:Value}(hc:w.cell? ⟨b,o,none⟩=some v)(c:¬M b):w'.cell? ⟨b,o,none⟩=some v :=
 (World.cell?_of_block (w:=w) (a:=⟨b,o,none⟩) (h.same b c (br hc))).trans hc
theorem jx(W:World)(k:Nat)(o:Obj):W.grownBy (W.putObj k o) (some k):=⟨rfl,rfl,rfl,by simp[World.putObj],fun i _ a=>World.putObj_heap_other (fun e=>a (by rw[e]))⟩
def EM{α:Type}(m bw l:Nat)(enc:α→Value)(M:Nat→Prop)(all:List α)(J:List α→World→Prop):Prop :=
 ∀(pre:List α) (s:α) (W:World),J pre W→pre++[s] <+: all→bw<W.heap.size→YieldAt Fence.wide m Tryz.prog l #[enc s] W fun e W' =>
  bX M W W'∧e=.returned (.bool true)∧J (pre++[s]) W'
def vX{α:Type}(f:FuncId)(caps:Array Value)(enc:α→Value)(all:List α)(C:Nat→Prop)(w:World):Prop :=
 ∀(M:Nat→Prop) (l m:Nat) (J:List α→World→Prop) (W:World),BW w W→(∀k,M k→C k∧k<W.heap.size)→(∀s W1 W2,J s W1→Below W.heap.size W1 W2→J s W2) →
  (∀m,EM m W.heap.size l enc M all J)→J [] W→CallsIn Fence.wide m Tryz.prog f (#[.func (.yield l) #[] #[]]++caps) W fun e W'=>(∃v,e=.returned v)∧J all W'
def EN{α:Type}(M:Nat→Prop)(I:List α→World→Prop)(xs:List α)(W:World):Exit→Act→World→Prop
 | .normal,_,W'=>bX M W W'∧I xs W'
 | _,_,_=>False
theorem EO{α:Type}{p:Tmp}{gf:Operand}{assign body:Code}{Q:Exit→Act→World→Prop}{a:Act}(nn:Nat)(f:FuncId)(j:Array Value)(enc:α→Value)(all:List α)(M C:Nat→Prop)(hg:a.eval gf=.func (.func f) #[] j)(G:vX f j enc all C w)(K:∀k,M k→C k∧k<w.heap.size)(hC:C (w.heap.size+1))(ab:∀args w,(callFunc f args).run Tryz.prog w=.ok (.enter f args) w)(I:List α→World→Prop)(H:∀s d y,I s d→Below w.heap.size d y→I s y)(h0:I [] w)(E:∀(m l:Nat) (b:List α) (s:α) (W:World),I b W→b++[s] <+: all→w.heap.size+2<W.heap.size →
   assign.wpIn (Fence.wide.inRound l) m Tryz.prog (Exit.then (fun a1 d=>BW W d∧∀y,I b y→d.grownBy y (some (w.heap.size+1))→y.heap.size=d.heap.size→body.wpIn (Fence.wide.inRound l) m Tryz.prog (EN M I (b++[s]) y) a1 y) (fun _ _ _=>False)) { tmps:=a.tmps.setIfInBounds p (enc s),defers:=[] } W)(F:∀(W:World),I all W→w.heap.size+2≤W.heap.size→W.heap[w.heap.size]?=some (.deferred (some []))→Q .normal { a with defers:={ target:=.collected w.heap.size,args:=#[] }::a.defers } W) :
  (Code.rangeFunc gf #[p] assign body).wpIn Fence.wide nn Tryz.prog Q a w:=by
 refine wpIn_rangeFunc ?_;intro fn ac;obtain⟨rec,hrec⟩:∃rec:LoopState→Option Code→Loop,rec=fun st pe=>{ state:=st,pending:=pe,fn,tmps:=a.tmps,params:=#[p],assign,body,defers:=w.heap.size }:=⟨_,rfl⟩
 obtain⟨d,u⟩:=ex ((w.alloc (.deferred (some []))).alloc (.loop (rec .ready none)));have hL1:d.heap[w.heap.size+1]?=some (.loop (rec .ready none)):=by rw[←u];have:=World.alloc_heap_new (w.alloc (.deferred (some []))) (.loop (rec .ready none));rwa [World.size_alloc]at this
 have Z:d.heap[w.heap.size]?=some (.deferred (some [])):=by rw[←u];exact(Below.heap_alloc _ _ _ (by simp)).trans (World.alloc_heap_new w _)
 have N:BW w d:=by rw[←u];exact((Below.refl _ w).alloc (lr _) _).alloc (by simp) _
 have ai:d.heap.size=w.heap.size+2:=by rw[←u];simp
 have V:I [] d:=H _ _ _ h0 N;refine⟨w.heap.size+1,[{ target:=.collected w.heap.size,args:=#[] }],d,{ target:=.fn (.func f) j,args:=#[.func (.yield (w.heap.size+1)) #[] #[]] },d,f,
  #[.func (.yield (w.heap.size+1)) #[] #[]]++j,d, ?_, ?_, ?_, ?_,hdd _, ?_⟩
 ·rw[←u,hrec];exact run_enterLoop_outer _ _ _ _ _
 ·simp only[resolve,hg];simp[go_sem]
 ·intro f' ah;trivial
 ·simp[invoke,go_sem,ab]
 ·have c:∀{B:Nat} {X Y:World} {k:Nat} {o:Obj},Below B X Y→k<B→X.heap[k]?=some o→Y.heap[k]?=some o:=fun L g ho=>(L.block _ g).trans ho
  refine(G (fun k=>M k∨k=w.heap.size+1) (w.heap.size+1) (nn-1)
   (fun b W=>I b W∧W.heap[w.heap.size+1]?=some (.loop (rec .ready none))∧W.heap[w.heap.size]?=some (.deferred (some [])))
   d N (fun k g=>by
    rcases g with g | g
    ·have:=K k g;exact⟨this.1,by omega⟩
    ·subst g;exact⟨hC,by omega⟩)
   (fun s A B h L=>⟨H s A B h.1 (L.mono (by omega)),c L (by omega) h.2.1,c L (by omega) h.2.2⟩) ?_ ⟨V,hL1,Z⟩).mono ?_
  ·rintro m b x W ⟨T,J,g⟩ S ag;have hlt:w.heap.size+1<W.heap.size:=(Array.getElem?_eq_some_iff.1 J).1;have hy:(Instr.yield (w.heap.size+1) #[enc x]).run Tryz.prog W=.ok (.round (w.heap.size+1) fn (a.tmps.setIfInBounds p (enc x)) assign body) W:=by
    have:=run_yield (P:=Tryz.prog) (args:=#[enc x]) J (by rw[hrec];rfl)
    rw[hrec]at this
    simpa using this
   refine⟨fn,_,assign,body,hy,roundIn_of_wpIn ac ?_⟩;refine wpIn_mono (E m (w.heap.size+1) b x W T S (by omega)) ?_
   rintro e a1 i D;cases e with
   | normal =>
    obtain⟨z,D⟩:=D;have hl':i.heap[w.heap.size+1]?=some (.loop (rec .ready none)):=c z hlt J;have hk':i.heap[w.heap.size]?=some (.deferred (some [])):=c z (by omega) g
    have R:w.heap.size+1<i.heap.size:=(Array.getElem?_eq_some_iff.1 hl').1;have hi':I b i:=H _ _ _ T (z.mono (by omega))
    refine⟨_,run_beginRound hl' (by rw[hrec]), ?_⟩
    have af:(i.putObj (w.heap.size+1) (.loop { rec .ready none with state:=.busy })).heap[w.heap.size+1]?=some (.loop { rec .ready none with state:=.busy }):=World.putObj_heap_same R
    have ae:(i.putObj (w.heap.size+1) (.loop { rec .ready none with state:=.busy })).heap[w.heap.size]?=some (.deferred (some [])):=(World.putObj_heap_other (by omega)).trans hk'
    refine wpIn_mono (D _ (H _ _ _ hi' (oZ _ (by omega) _)) (jx _ _ _) (by simp[World.putObj])) ?_
    have U:∀(jump:Option Code) (r:World),bX M (i.putObj (w.heap.size+1) (.loop { rec .ready none with state:=.busy })) r →
      (Instr.endRound (w.heap.size+1) jump).run Tryz.prog r=.ok (.bool jump.isNone) (r.putObj (w.heap.size+1) (.loop (rec (if jump.isNone then .ready else .done) jump))) ∧
      (r.putObj (w.heap.size+1) (.loop (rec (if jump.isNone then .ready else .done) jump))).heap[w.heap.size+1]?=some (.loop (rec (if jump.isNone then .ready else .done) jump)) ∧
      (r.putObj (w.heap.size+1) (.loop (rec (if jump.isNone then .ready else .done) jump))).heap[w.heap.size]?=some (.deferred (some [])) ∧
      bX (fun k=>M k∨k=w.heap.size+1) W (r.putObj (w.heap.size+1) (.loop (rec (if jump.isNone then .ready else .done) jump))):=fun jump r n=>by
     have nM:∀k,w.heap.size≤k→¬M k:=fun k g hm=>by have:=(K k hm).2;omega
     have O:r.heap[w.heap.size+1]?=some (.loop { rec .ready none with state:=.busy }):=(n.same _ (nM _ (by omega)) (by simp[World.putObj];omega)).trans af
     have aa:r.heap[w.heap.size]?=some (.deferred (some [])):=(n.same _ (nM _ (by omega)) (by simp[World.putObj];omega)).trans ae
     have:=run_endRound (P:=Tryz.prog) jump O;rw[hrec]at this ⊢;have put:∀(X:World) (o:Obj),bX (fun k=>M k∨k=w.heap.size+1) X (X.putObj (w.heap.size+1) o):=fun X o =>
      ⟨by simp[World.putObj],fun k g _=>World.putObj_heap_other (fun e=>g (.inr e))⟩
     refine⟨this,World.putObj_heap_same (Array.getElem?_eq_some_iff.1 O).1,(World.putObj_heap_other (by omega)).trans aa, ?_⟩
     exact(((bX.of_below z).trans (put _ _)).trans ⟨n.size,fun k g=>n.same k (fun hm=>g (.inl hm))⟩).trans (put _ _)
    rintro e a3 r q;cases e with
    | normal =>
     obtain⟨n,ad⟩:=q;obtain⟨hr,hl4,hk4,hkb⟩:=U none r n;exact⟨_,_,hr,hkb,rfl,H _ _ _ ad (oZ _ (by omega) _),hl4,hk4⟩
    | ret=>exact q.elim
    | exit id=>exact q.elim
    | goto t=>exact q.elim
    | panic ch=>exact q.elim
    | outgrown=>exact q.elim
   | ret=>exact D.elim
   | exit id=>exact D.elim
   | goto t=>exact D.elim
   | panic ch=>exact D.elim
   | outgrown=>exact D.elim
  ·rintro e y ⟨⟨v,rfl⟩,T,J,g⟩;have hlt2:=(Array.getElem?_eq_some_iff.1 J).1;exact⟨none,_,by have:=run_endLoop (P:=Tryz.prog) J (by rw[hrec];simp);rw[hrec]at this;exact this,
    F _ (H _ _ _ T (oZ _ (by omega) _)) (by simp[World.putObj];omega) ((World.putObj_heap_other (by omega)).trans g)⟩
end
end Go.Proofs.YtbillnhcmkpohaaGreatDoor
namespace Go.Proofs.YtbillnhcmkpohaaGreatDoor
open Go.RowKit
theorem FJ(y:ar)(A:aI)(L:Option Addr)(l:List Int)(B cap u t k:Nat)(x:Int)(w:World)(q:aa w u 74 (ak y A))(H:w.cell? ⟨t,0,none⟩=some (.slice L l.length cap))(m:am iv w B L l)(E:l.length≤maxLen)(F:y.papers.length≤10)(hx:l[k]?=some x)(v:0≤x∧x<y.papers.length)(a:∀z,0<k→l[k-1]?=some z→z<x) :
  Cs 71 #[iv k,iv x,pT u 0,pT t 0] w (Rt w (iv 0)):=by
 have M:=q.c 3;obtain⟨n,hnn⟩:=ex y.papers.length;rw[hnn]at F M v;have hlt:=(lG hx);unfold maxLen at E;have hin:inB 0 ((n:Int)-1) x=true:=cX v.1 (by omega)
 have I:IntKind.i64.wrap ((n:Int)-1)=(n:Int)-1:=by rw[IntKind.wrap_i64];omega
 have s:Hid (∀(g:Nat) (W:World),W.cell? ⟨g,0,none⟩=some (iv x)→g<W.heap.size→Cs 26 #[iv 0,iv ((n:Int)-1),.slice (some ⟨g,0,none⟩) 1 1] W (Rt W (.bool false))):=Lq fun g W h1 h2=>by have h:=lB 0 ((n:Int)-1) x g W h1 h2;rw[hin]at h;exact h
 have p:=nn k;by_cases hk:k=0
 ·subst hk;clear q m hx a hin;go_enter Tryz.func71,Tryz.ntmps71
  go_wp2_with fail;refine(s.out _ _ ((aa.new w 3 #[iv x]).c 0) (aa.new w 3 #[iv x]).lt).mono ?_;rintro e C ⟨rfl,a⟩;go_wp2_with fail;go_ret
  exact⟨rfl,bT (bA (bR _) _) a⟩
 ·obtain⟨j,rfl⟩:∃j,k=j+1:=⟨k-1,by omega⟩
  obtain⟨z,r⟩:=gX (l:=l) (i:=j) (by omega)
  have J:=a z (by omega) r
  obtain⟨b,K,rfl,_,o⟩:=m j z r;have hw2:IntKind.i64.wrap (((j+1:Nat):Int)-1)=(j:Int):=by rw[IntKind.wrap_i64];omega
  have D:=nn j;have hjz:(j:Int)<(l.length:Int):=by omega
  have f:(0:Int)<((j+1:Nat):Int):=by omega
  obtain⟨N,d⟩:=ex ((j+1:Nat):Int);rw[d]at hw2 f ⊢;have hd:decide (x≤z)=false:=decide_eq_false (by omega)
  have G:¬x≤z:=by omega
  clear q m hx a hin r d hk p;go_enter Tryz.func71,Tryz.ntmps71
  go_wp2_with fail;refine(s.out _ _ ((aa.new w 3 #[iv x]).c 0) (aa.new w 3 #[iv x]).lt).mono ?_;rintro e C ⟨rfl,a⟩;have hb2:BW w C:=bT (bA (bR _) _) a;have HB2:=Lq hb2;have y0:=kC hb2 H;have y1:=kC hb2 o;clear a hb2;go_wp2_with fail;go_ret
  exact⟨rfl,HB2.out⟩
def jb(n:Nat)(l:List Int):Prop:=∀(k:Nat) (x:Int),l[k]?=some x→(0≤x∧x<n)∧∀z,0<k→l[k-1]?=some z→z<x
theorem FK(y:ar)(A:aI)(L:Option Addr)(l:List Int)(B cap d c:Nat)(w:World)(p:aa w d 74 (ak y A))(o:w.cell? ⟨c,0,none⟩=some (.slice L l.length cap))(g:am iv w B L l)(f:B≤w.heap.size)(j:l.length≤maxLen)(n:y.papers.length≤10)(h:jb y.papers.length l) :
  Cs 70 #[.slice L l.length cap,.func (.func 71) #[] #[pT d 0,pT c 0]] w (Rt w (.tuple #[iv 0,iv 0])):=by
 have q:=Lq g;have HZ:=Lq f;have HS:Hid (∀(k:Nat) (x:Int) W,BW w W→l[k]?=some x→Cs 71 #[iv k,iv x,pT d 0,pT c 0] W (Rt W (iv 0))):=Lq fun k x W hb hx=>FJ y A L l B cap d c k x W (p.keep hb) (kC hb o) (g.below hb f) j n hx (h k x hx).1 (h k x hx).2
 unfold maxLen at j;clear g f p o h n;go_enter Tryz.func70,Tryz.ntmps70
 go_wp2_with fail;go_loopw [10] (fun i wr=>∃m:Nat,m≤l.length∧i=iv m∧Hid (BW w wr)) (fun i _=>l.length-(intOf i).toNat)
 case atStart=>exact⟨0,Nat.zero_le _,rfl,Lq (bR _)⟩
 case round =>
  obtain⟨m,s,rfl,a⟩:=hrel;have hk0:=nn m;by_cases hlt:m<l.length
  case neg =>
   obtain rfl:m=l.length:=by omega
   go_wp2_with fail
   go_ret2
   exact⟨rfl,a.out⟩
  have r:(m:Int)<(l.length:Int):=by omega
  obtain⟨x,hx⟩:=gX (l:=l) (i:=m) hlt;obtain⟨b,off,rfl,_,hcx⟩:=(q.out.below a.out HZ.out) m x hx;have HD:=Lq (HS.out m x wr a.out hx);clear hx;go_wp2_with fail;refine HD.out.mono ?_;rintro e w2 ⟨rfl,hb⟩;have HB2:=Lq (bT a.out hb);clear hb HD hcx;go_wp2_with fail;go_roundw
  case rel=>exact⟨m+1,hlt,by go_num,HB2⟩
  case measure=>simp[intOf];omega
theorem FM(b a:Nat)(l:List ByteArray)(B cap g i:Nat)(s:ByteArray)(w:World)(r:w.cell? ⟨g,0,none⟩=some (.slice (some ⟨b,a,none⟩) l.length cap))(k:am .string w B (some ⟨b,a,none⟩) l)(hc:l.length≤cap)(m:cap≤maxLen)(o:l[i]?=some s)(f:s.size≤maxLen)(n:du s=true)(c:Lib.containsS (l.take i) s=false) :
  Cs 188 #[iv i,.string s,pT g 0] w (Rt w (iv 0)):=by
 have q:=(lG o);have HN:Hid (Cs 53 #[.string s] w (Rt w (.bool true))):=Lq (n▸oU s w f);have HC:Hid (∀W,BW w W→Cs 156 #[.slice (some ⟨b,a,none⟩) i cap,.string s] W fun e w'=>e=.returned (.bool false)∧w'=W):=Lq fun W d=>by
  have h:=Tryz.slices_Contains_string b a i cap l s W (by omega) (by unfold maxLen at m;omega) (fun j hj=>by
   obtain⟨z,f⟩:=gX (l:=l) (i:=j) hj;obtain⟨b',off',e,_,hcc⟩:=k j z f;injection e with e
   injection e with e1 e2
   subst e1 e2;rw[kC d hcc,List.getD_eq_getElem?_getD,f];rfl)
  rw[c]at h;exact h
 unfold maxLen at m;have p:=nn i;have hic:i≤cap:=by omega
 clear k o f n c;go_enter Tryz.func188,Tryz.ntmps188
 go_wp2_with fail;refine HN.out.mono ?_;rintro e t ⟨rfl,d⟩;have y0:=kC d r;have HB:=Lq d;have HD:=Lq (HC.out t d);clear d;go_wp2_with fail;refine HD.out.mono ?_;rintro e w2 ⟨rfl,rfl⟩;go_wp2_with fail;go_ret
 exact⟨rfl,HB.out⟩
def ns(l:List ByteArray):Prop:=∀(i:Nat) (s:ByteArray),l[i]?=some s→s.size≤maxLen∧du s=true∧Lib.containsS (l.take i) s=false
theorem FN(b c:Nat)(l:List ByteArray)(B cap d:Nat)(w:World)(o:w.cell? ⟨d,0,none⟩=some (.slice (some ⟨b,c,none⟩) l.length cap))(h:am .string w B (some ⟨b,c,none⟩) l)(g:B≤w.heap.size)(hc:l.length≤cap)(n:cap≤maxLen)(f:ns l) :
  Cs 187 #[.slice (some ⟨b,c,none⟩) l.length cap,.func (.func 188) #[] #[pT d 0]] w (Rt w (.tuple #[iv 0,iv 0])):=by
 have p:=Lq h;have HZ:=Lq g;have HS:Hid (∀(k:Nat) (x:ByteArray) W,BW w W→l[k]?=some x→Cs 188 #[iv k,.string x,pT d 0] W (Rt W (iv 0))):=Lq fun k x W hb hx=>FM b c l B cap d k x W (kC hb o) (h.below hb g) hc n hx (f k x hx).1 (f k x hx).2.1 (f k x hx).2.2
 unfold maxLen at n;clear h g o f;go_enter Tryz.func187,Tryz.ntmps187
 go_wp2_with fail;go_loopw [10] (fun i wr=>∃m:Nat,m≤l.length∧i=iv m∧Hid (BW w wr)) (fun i _=>l.length-(intOf i).toNat)
 case atStart=>exact⟨0,Nat.zero_le _,rfl,Lq (bR _)⟩
 case round =>
  obtain⟨m,r,rfl,a⟩:=hrel;have hk0:=nn m;by_cases hlt:m<l.length
  case neg =>
   obtain rfl:m=l.length:=by omega
   go_wp2_with fail
   go_ret2
   exact⟨rfl,a.out⟩
  have q:(m:Int)<(l.length:Int):=by omega
  obtain⟨x,hx⟩:=gX (l:=l) (i:=m) hlt;obtain⟨b',off',e,_,hcx⟩:=(p.out.below a.out HZ.out) m x hx;injection e with e
  injection e with e1 e2
  subst e1 e2;have j:=Lq (HS.out m x wr a.out hx);clear hx;go_wp2_with fail;refine j.out.mono ?_;rintro e w2 ⟨rfl,hb⟩;have HB2:=Lq (bT a.out hb);clear hb j hcx;go_wp2_with fail;go_roundw
  case rel=>exact⟨m+1,hlt,by go_num,HB2⟩
  case measure=>simp[intOf];omega
end Go.Proofs.YtbillnhcmkpohaaGreatDoor
