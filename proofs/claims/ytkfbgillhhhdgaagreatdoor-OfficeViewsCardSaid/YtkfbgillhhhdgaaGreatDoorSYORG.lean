/- Part of a proof. No conditions. -/
import Derived.Test.YtkfbgillhhhdgaaGreatDoorSYOPT
import Derived.Test.YtkfbgillhhhdgaaGreatDoorAT
import Derived.Shelf.Strings.Builder1
import Derived.Shelf.Strings.Builder2
import Derived.Shelf.Strings.OnBuilder
import Derived.Shelf.Strconv.Itoa0
import Derived.Shelf.Strconv.Itoa1
import Derived.Shelf.LaysM
import Derived.Shelf.Strconv.Itoa2
import Derived.Shelf.Strconv.Itoa3
import Derived.Shelf.Strings.Search1
import Derived.Shelf.Strings.Search2
import Derived.Shelf.Strings.Search3
import Derived.Shelf.Strings.Cut
import Derived.Shelf.Strings.Count
import Derived.Shelf.Strings.Shaped
import Derived.Shelf.GgClosure.StringsIndexFunc
import Derived.Ground.GgwProg
import Derived.Shelf.GgClosure.StringsIndexFuncTop
import Derived.Shelf.Strings.Split
import Derived.Shelf.Unicode.DecodeSlow
import Derived.Shelf.Unicode.DecodeAny
import Derived.Shelf.Strings.FuncGrows
import Derived.Test.YtkfbgillhhhdgaaGreatDoorProg
import Derived.Test.YtkfbgillhhhdgaaGreatDoorAV
import Derived.Test.YtkfbgillhhhdgaaGreatDoorAX
set_option linter.unusedSimpArgs false
set_option linter.unusedVariables false
section
set_option maxRecDepth 100000
set_option maxHeartbeats 1000000
namespace Go.Fly.Tryz
open Go Off Go.Proofs.Tryz
theorem zjw:Holds prog G0 202 ko:=by
 refine Holds.of_exC D202 func202 rfl zK (by kernel_rfl) (tab []) (zk trivial) zw fun k0 rl args hpu hpre=>?_
 unfold ko at hpre ⊢
 obtain⟨s,rfl,hl⟩:=hpre
 simp only[zE,zF]
 simp only[f202]
 rw[zb (Nat.le_of_ble_eq_true rfl)]
 simp(maxSteps:=4000000) only[go_sem,↓zj]
 refine zB.loopF (β:=Nat) [(3,4),(9,20)] (fun i=>[(3,.int .i64 (zb1 s i)),(9,.int .i64 i)]) (fun i=>fun _=>none) (fun i=>i≤s.length) (fun i=>s.length - i) 0 (Nat.zero_le _) ?_ zy.none ?_
 ·simp(maxSteps:=400000) only[go_sem,↓zj]
  exact rfl
 ·intro c i hck hi
  have hi:i≤s.length:=hi
  have hb:=zcj s i
  generalize hq0:exC _ _ _ _ _=gg
  by_cases hlt:i < s.length
  ·have hd:decide ((i:Int) < (s.length:Int))=true:=decide_eq_true (by omega)
   rw[← hq0]
   clear hq0
   simp(maxSteps:=400000) only[go_sem,↓zj,hd,w864,if_true]
   have hu:(((s[i]?.getD 0).toNat:Nat):Int)≤255:=by have:=(s[i]?.getD 0).toNat_lt;omega
   exact⟨zn (by omega) (by omega),⟨by omega,by omega⟩,zn (by omega) (by omega),zn (by omega) (by omega),zn (by omega) (by omega),i+1,hlt,by omega,⟨by show _=V.int .i64 ((397 * zb1 s i+(((s.getD i 0).toNat:Nat):Int)).tmod 9999943);rw[List.getD_eq_getElem?_getD],rfl⟩,zy.none⟩
  ·have hd:decide ((i:Int) < (s.length:Int))=false:=decide_eq_false (by omega)
   obtain rfl:i=s.length:=by omega
   rw[← hq0]
   clear hq0
   simp(maxSteps:=400000) only[go_sem,↓zj,hd]
   have hx:=zcj s s.length
   generalize hxe:zb1 s s.length=x at hx ⊢
   generalize hL:((c+1+1,21):Loc)=L
   have hL1:L.1=c+1+1:=by rw[← hL]
   refine zB.loopG (β:=Nat) [(3,3),(6,6),(22,35)] (fun i=>[(3,.int .i64 (zh5 x i)),(22,.int .i64 i)]) (fun i=>updH (fun _=>none) L (.arr 7 1 fun j=>[.int .u8 (if 7 - i≤j then zg5 x (6 - j) else 0)])) (fun _ i=>i≤7) (fun i=>7 - i) 0 (Nat.zero_le _) ?_ ?_ ?_
   ·simp(maxSteps:=400000) only[go_sem,↓zj]
    exact rfl
   ·exact zy.upd zy.none ⟨_,zd _ _ _,⟨rfl,rfl,fun j hj=>by show [V.int .u8 (if 7 - 0≤j then zg5 x (6 - j) else 0)]=[V.int .u8 0];rw[if_neg (by omega)]⟩⟩
   ·intro c2 i hck2 hi
    have hi:i≤7:=hi
    have hdb:=zed hx i
    generalize hq0:exC _ _ _ _ _=gg
    by_cases hlt:i < 7
    ·have hd:decide ((i:Int) < 7)=true:=decide_eq_true (by omega)
     rw[← hq0]
     clear hq0
     have hw:=wrap_dig hx i
     have hix:(6:Int) - (i:Int)=((6 - i:Nat):Int):=by omega
     simp(maxSteps:=400000) only[go_sem,↓zj,hd,w648,if_false,hw,hix]
     have hdg:=zn4 hx i
     have hdv:=zed hx (i+1)
     have hdg2:48≤48+(zh5 x i).tmod 10∧48+(zh5 x i).tmod 10≤57:=hdg
     have hdv2:0≤(zh5 x i).tdiv 10∧(zh5 x i).tdiv 10≤9999942:=hdv
     refine⟨zn (by omega) (by omega),zn (by omega) (by omega),⟨by omega,by omega⟩,zn (by omega) (by omega),zn (by omega) (by omega),by omega,i+1,hlt,by omega,⟨rfl,rfl⟩,zy.arr1 (zd _ _ _) rfl rfl fun j hj=>?_⟩
     show [V.int .u8 (if 7 - (i+1)≤j then zg5 x (6 - j) else 0)]=if j=0+(6 - i) then [V.int .u8 (zg5 x i)] else [V.int .u8 (if 7 - i≤j then zg5 x (6 - j) else 0)]
     by_cases q:j=0+(6 - i)
     ·have e:6 - j=i:=by omega
      rw[if_pos q,if_pos (by omega),e]
     ·rw[if_neg q]
      by_cases q2:7 - i≤j
      ·rw[if_pos q2,if_pos (by omega)]
      ·rw[if_neg q2,if_neg (by omega)]
    ·have hd:decide ((i:Int) < 7)=false:=decide_eq_false (by omega)
     obtain rfl:i=7:=by omega
     rw[← hq0]
     clear hq0
     simp(maxSteps:=400000) only[go_sem,↓zj,hd]
     refine⟨_,wu.kill (d:=5) (l:=L) (n:=7) (get:=fun j=>[.int .u8 (if 0≤j then zg5 x (6 - j) else 0)]) (sz:=1) rfl (if_pos rfl) (fun i j v hi hv=>by
      have:=List.mem_of_getElem? hv
      rw[List.mem_singleton.1 this];exact .int _ _),?_⟩
     simp(maxSteps:=400000) only[go_sem,↓zj]
     refine⟨⟨by decide,fun i hi=>rfl⟩,zo.of_eq (congrArg V.str ?_)⟩
     unfold qV
     rw[hxe]
     rfl
end Go.Fly.Tryz
end
section
/-
  DERIVED: THE SHELF's CONTRACTS AT THIS DUMP, IN PLAIN WORDS (tools/lay-plain.mjs out of 'TryzShelf.lean', which tools/lay-shelf.mjs wrote): THE SAME DECLARATIONS UNDER THE SAME NAMES: 'import', 'namespace', 'open', 'def', 'theorem' AND NOTHING ELSE: no command of the shelf's: FOR A HAND-IN. Each laying: the table of numbers ('.._ren') and one theorem, a field a fact of the dump's own or the kernel's comparison; each contract: ONE APPLICATION.
-/
namespace Go.Proofs
open Go.Shelf
def Tryz.lays156_ren:Go.Shelf.Ren:=⟨fun | 156=>139 | 165=>222 | 166=>223 | 169=>224 | 240=>253 | 241=>254 | 276=>270 | 277=>271 | n=>n,fun | 31=>23 | 9=>9 | 3=>3 | 4=>4 | 0=>0 | 20=>20 | 72=>293 | 76=>297 | 70=>291 | 37=>84 | 75=>296 | 127=>321 | 164=>334 | 5=>5 | 80=>152 | n=>n,fun | n=>n⟩
theorem Tryz.lays156:Go.Proofs.Lays.n156 Tryz.prog Tryz.lays156_ren:={
 mixed:=by kernel_rfl
 f156:=Tryz.func139.trans (congrArg some (by kernel_rfl))
 f165:=Tryz.func222.trans (congrArg some (by kernel_rfl))
 f166:=Tryz.func223.trans (congrArg some (by kernel_rfl))
 f169:=Tryz.func224.trans (congrArg some (by kernel_rfl))
 f240:=Tryz.func253.trans (congrArg some (by kernel_rfl))
 f241:=Tryz.func254.trans (congrArg some (by kernel_rfl))
 f276:=Tryz.func270.trans (congrArg some (by kernel_rfl))
 f277:=Tryz.func271.trans (congrArg some (by kernel_rfl))
 t0:=Tryz.underlying0
 a0:=Tryz.isAgg0
 z0:=Tryz.sizeOf0
 v0:=Tryz.zeroValue0
 t3:=Tryz.underlying3
 a3:=Tryz.isAgg3
 z3:=Tryz.sizeOf3
 v3:=Tryz.zeroValue3
 t4:=Tryz.underlying4
 a4:=Tryz.isAgg4
 z4:=Tryz.sizeOf4
 v4:=Tryz.zeroValue4
 t9:=Tryz.underlying9
 a9:=Tryz.isAgg9
 z9:=Tryz.sizeOf9
 v9:=Tryz.zeroValue9
 t20:=Tryz.underlying20
 a20:=Tryz.isAgg20
 z20:=Tryz.sizeOf20
 v20:=Tryz.zeroValue20
 t31:=Tryz.underlying23
 a31:=Tryz.isAgg23
 z31:=Tryz.sizeOf23
 v31:=Tryz.zeroValue23
 t37:=Tryz.underlying84
 a37:=Tryz.isAgg84
 z37:=Tryz.sizeOf84
 v37:=Tryz.zeroValue84
 t70:=Tryz.underlying291
 a70:=Tryz.isAgg291
 z70:=Tryz.sizeOf291
 v70:=Tryz.zeroValue291
 t72:=Tryz.underlying293
 a72:=Tryz.isAgg293
 z72:=Tryz.sizeOf293
 v72:=Tryz.zeroValue293
 t75:=Tryz.underlying296
 a75:=Tryz.isAgg296
 z75:=Tryz.sizeOf296
 v75:=Tryz.zeroValue296
 t76:=Tryz.underlying297
 a76:=Tryz.isAgg297
 z76:=Tryz.sizeOf297
 v76:=Tryz.zeroValue297
 t127:=Tryz.underlying321
 a127:=Tryz.isAgg321
 z127:=Tryz.sizeOf321
 v127:=Tryz.zeroValue321
 t164:=Tryz.underlying334
 a164:=Tryz.isAgg334
 z164:=Tryz.sizeOf334
 v164:=Tryz.zeroValue334 }
theorem Tryz.Builder_Extra_156:Builder.Extra Tryz.prog Tryz.lays156_ren:={
 sizeBuilder:=by kernel_rfl
 liesBuilder:=by kernel_rfl
 t5:=Tryz.underlying5
 a5:=Tryz.isAgg5
 z5:=Tryz.sizeOf5
 v5:=Tryz.zeroValue5
 infoByte:=by kernel_rfl
 cellsByte:=by kernel_rfl
 sizeByte:=by kernel_rfl
 neB5:=by decide }
open Go.RowKit in
theorem Tryz.strings_Join_none (a:Option Addr)(c:Nat)(sep:ByteArray)(w:World) :
 Calls Tryz.prog 139 #[.slice a 0 c,.string sep] w fun e w'=>e=.returned (.string ⟨#[]⟩)∧w'=w:=Any.strings_Join_none Tryz.lays156 Tryz.Builder_Extra_156 a c sep w
open Go.RowKit in
theorem Tryz.strings_Join (bk o c:Nat)(xs:List ByteArray)(sep:ByteArray)(w:World)(hcells:∀ (j:Nat) x,xs[j]?=some x→w.cell? ⟨bk,o+j,none⟩=some (.string x))(hbk:bk < w.heap.size)(hN:xs.length≤140737488355328)(hcap:xs.length≤c)(hlen:(Lib.join (xs.map (·.data.toList)) sep.data.toList).length≤140737488355328) :
 Calls Tryz.prog 139 #[.slice (some ⟨bk,o,none⟩) xs.length c,.string sep] w fun e w'=>e=.returned (.string ⟨(Lib.join (xs.map (·.data.toList)) sep.data.toList).toArray⟩)∧Below w.heap.size w w':=Any.strings_Join Tryz.lays156 Tryz.Builder_Extra_156 bk o c xs sep w hcells hbk hN hcap hlen
def Tryz.laysM171_ren:Go.Shelf.Ren:=⟨fun | 171=>111 | 243=>193 | 246=>246 | 283=>258 | 284=>259 | 285=>260 | 286=>261 | 129=>274 | 317=>273 | 318=>275 | 319=>276 | 320=>277 | 337=>281 | 338=>282 | n=>n,fun | 3=>3 | 9=>9 | 2=>2 | 4=>4 | 171=>323 | 0=>0 | 53=>324 | 37=>84 | 5=>5 | 173=>327 | 212=>339 | 51=>340 | 20=>20 | 213=>341 | 46=>330 | 232=>350 | 233=>351 | n=>n,fun | 17=>3 | 18=>6 | 19=>7 | n=>n⟩
theorem Tryz.laysM171:Go.Proofs.LaysM.n171 Tryz.prog Tryz.laysM171_ren:={
 mixed:=by kernel_rfl
 f129:=Tryz.func274.trans (congrArg some (by kernel_rfl))
 f171:=Tryz.func111.trans (congrArg some (by kernel_rfl))
 f243:=Tryz.func193.trans (congrArg some (by kernel_rfl))
 f246:=Tryz.func246.trans (congrArg some (by kernel_rfl))
 f283:=Tryz.func258.trans (congrArg some (by kernel_rfl))
 f284:=Tryz.func259.trans (congrArg some (by kernel_rfl))
 f285:=Tryz.func260.trans (congrArg some (by kernel_rfl))
 f286:=Tryz.func261.trans (congrArg some (by kernel_rfl))
 f317:=Tryz.func273.trans (congrArg some (by kernel_rfl))
 f318:=Tryz.func275.trans (congrArg some (by kernel_rfl))
 f319:=Tryz.func276.trans (congrArg some (by kernel_rfl))
 f320:=Tryz.func277.trans (congrArg some (by kernel_rfl))
 f337:=Tryz.func281.trans (congrArg some (by kernel_rfl))
 f338:=Tryz.func282.trans (congrArg some (by kernel_rfl))
 t0:=Tryz.underlying0
 a0:=Tryz.isAgg0
 z0:=Tryz.sizeOf0
 v0:=Tryz.zeroValue0
 t2:=Tryz.underlying2
 a2:=Tryz.isAgg2
 z2:=Tryz.sizeOf2
 v2:=Tryz.zeroValue2
 t3:=Tryz.underlying3
 a3:=Tryz.isAgg3
 z3:=Tryz.sizeOf3
 v3:=Tryz.zeroValue3
 t4:=Tryz.underlying4
 a4:=Tryz.isAgg4
 z4:=Tryz.sizeOf4
 v4:=Tryz.zeroValue4
 t5:=Tryz.underlying5
 a5:=Tryz.isAgg5
 z5:=Tryz.sizeOf5
 v5:=Tryz.zeroValue5
 t9:=Tryz.underlying9
 a9:=Tryz.isAgg9
 z9:=Tryz.sizeOf9
 v9:=Tryz.zeroValue9
 t20:=Tryz.underlying20
 a20:=Tryz.isAgg20
 z20:=Tryz.sizeOf20
 v20:=Tryz.zeroValue20
 t37:=Tryz.underlying84
 a37:=Tryz.isAgg84
 z37:=Tryz.sizeOf84
 v37:=Tryz.zeroValue84
 t46:=Tryz.underlying330
 a46:=Tryz.isAgg330
 z46:=Tryz.sizeOf330
 v46:=Tryz.zeroValue330
 t51:=Tryz.underlying340
 a51:=Tryz.isAgg340
 z51:=Tryz.sizeOf340
 v51:=Tryz.zeroValue340
 t53:=Tryz.underlying324
 a53:=Tryz.isAgg324
 z53:=Tryz.sizeOf324
 v53:=Tryz.zeroValue324
 t171:=Tryz.underlying323
 a171:=Tryz.isAgg323
 z171:=Tryz.sizeOf323
 v171:=Tryz.zeroValue323
 t173:=Tryz.underlying327
 a173:=Tryz.isAgg327
 z173:=Tryz.sizeOf327
 v173:=Tryz.zeroValue327
 t212:=Tryz.underlying339
 a212:=Tryz.isAgg339
 z212:=Tryz.sizeOf339
 v212:=Tryz.zeroValue339
 t213:=Tryz.underlying341
 a213:=Tryz.isAgg341
 z213:=Tryz.sizeOf341
 t232:=Tryz.underlying350
 a232:=Tryz.isAgg350
 z232:=Tryz.sizeOf350
 v232:=Tryz.zeroValue350
 t233:=Tryz.underlying351
 a233:=Tryz.isAgg351
 z233:=Tryz.sizeOf351
 v233:=Tryz.zeroValue351
 g17:=by kernel_rfl
 g18:=by kernel_rfl
 g19:=by kernel_rfl
 i0:=by kernel_rfl
 i2:=by kernel_rfl
 i3:=by kernel_rfl
 i4:=by kernel_rfl
 i5:=by kernel_rfl
 i9:=by kernel_rfl
 i20:=by kernel_rfl
 i37:=by kernel_rfl
 i46:=by kernel_rfl
 i51:=by kernel_rfl
 i53:=by kernel_rfl
 i171:=by kernel_rfl
 i173:=by kernel_rfl
 i212:=by kernel_rfl
 i232:=by kernel_rfl
 i233:=by kernel_rfl
 m17:=by kernel_rfl
 m18:=by kernel_rfl
 m19:=by kernel_rfl }
open Go.RowKit Go.Sort Go.Lib in
theorem Tryz.strconv_Itoa (n:Int)(h0:-9223372036854775808≤n)(h1:n≤9223372036854775807)(w:World)(htab:Lib.TabIs Tryz.prog w "internal/strconv.uint64pow10" .u64 Lib.pow10Tab) :
 Calls Tryz.prog 111 #[.int .i64 n] w fun e w'=>e=.returned (.string ⟨(Lib.itoa n).toArray⟩)∧∃ k os,w'=grow (w.drewN k) os:=Any.strconv_Itoa Tryz.laysM171 n h0 h1 w htab
def Tryz.lays143_ren:Go.Shelf.Ren:=⟨fun | 143=>252 | 219=>248 | 217=>262 | 225=>263 | 224=>264 | 267=>265 | 266=>278 | 314=>279 | n=>n,fun | 9=>9 | 3=>3 | 4=>4 | 5=>5 | 46=>330 | 146=>343 | 51=>340 | n=>n,fun | 1=>1 | n=>n⟩
theorem Tryz.lays143:Go.Proofs.Lays.n143 Tryz.prog Tryz.lays143_ren:={
 mixed:=by kernel_rfl
 f143:=Tryz.func252.trans (congrArg some (by kernel_rfl))
 f217:=Tryz.func262.trans (congrArg some (by kernel_rfl))
 f219:=Tryz.func248.trans (congrArg some (by kernel_rfl))
 f224:=Tryz.func264.trans (congrArg some (by kernel_rfl))
 f225:=Tryz.func263.trans (congrArg some (by kernel_rfl))
 f266:=Tryz.func278.trans (congrArg some (by kernel_rfl))
 f267:=Tryz.func265.trans (congrArg some (by kernel_rfl))
 f314:=Tryz.func279.trans (congrArg some (by kernel_rfl))
 t3:=Tryz.underlying3
 a3:=Tryz.isAgg3
 z3:=Tryz.sizeOf3
 v3:=Tryz.zeroValue3
 t4:=Tryz.underlying4
 a4:=Tryz.isAgg4
 z4:=Tryz.sizeOf4
 v4:=Tryz.zeroValue4
 t5:=Tryz.underlying5
 a5:=Tryz.isAgg5
 z5:=Tryz.sizeOf5
 v5:=Tryz.zeroValue5
 t9:=Tryz.underlying9
 a9:=Tryz.isAgg9
 z9:=Tryz.sizeOf9
 v9:=Tryz.zeroValue9
 t46:=Tryz.underlying330
 a46:=Tryz.isAgg330
 z46:=Tryz.sizeOf330
 v46:=Tryz.zeroValue330
 t51:=Tryz.underlying340
 a51:=Tryz.isAgg340
 z51:=Tryz.sizeOf340
 v51:=Tryz.zeroValue340
 t146:=Tryz.underlying343
 a146:=Tryz.isAgg343
 z146:=Tryz.sizeOf343
 v146:=Tryz.zeroValue343
 g1:=by kernel_rfl }
open Go.RowKit Go.Lib in
theorem Tryz.strings_Index_one (s:ByteArray)(c:UInt8)(w:World) :
 Calls Tryz.prog 252 #[.string s,.string ⟨#[c]⟩] w fun e w'=>e=.returned (.int .i64 (Lib.indexByte s.data.toList c))∧w'=w:=Any.strings_Index_one Tryz.lays143 s c w
def Tryz.lays138_ren:Go.Shelf.Ren:=⟨fun | 138=>251 | 195=>267 | 218=>269 | 143=>252 | 219=>248 | 217=>262 | 225=>263 | 224=>264 | 267=>265 | 266=>278 | 314=>279 | n=>n,fun | 9=>9 | 3=>3 | 4=>4 | 5=>5 | 0=>0 | 46=>330 | 146=>343 | 51=>340 | n=>n,fun | 1=>1 | n=>n⟩
theorem Tryz.lays138:Go.Proofs.Lays.n138 Tryz.prog Tryz.lays138_ren:={
 mixed:=by kernel_rfl
 f138:=Tryz.func251.trans (congrArg some (by kernel_rfl))
 f143:=Tryz.func252.trans (congrArg some (by kernel_rfl))
 f195:=Tryz.func267.trans (congrArg some (by kernel_rfl))
 f217:=Tryz.func262.trans (congrArg some (by kernel_rfl))
 f218:=Tryz.func269.trans (congrArg some (by kernel_rfl))
 f219:=Tryz.func248.trans (congrArg some (by kernel_rfl))
 f224:=Tryz.func264.trans (congrArg some (by kernel_rfl))
 f225:=Tryz.func263.trans (congrArg some (by kernel_rfl))
 f266:=Tryz.func278.trans (congrArg some (by kernel_rfl))
 f267:=Tryz.func265.trans (congrArg some (by kernel_rfl))
 f314:=Tryz.func279.trans (congrArg some (by kernel_rfl))
 t0:=Tryz.underlying0
 a0:=Tryz.isAgg0
 z0:=Tryz.sizeOf0
 v0:=Tryz.zeroValue0
 t3:=Tryz.underlying3
 a3:=Tryz.isAgg3
 z3:=Tryz.sizeOf3
 v3:=Tryz.zeroValue3
 t4:=Tryz.underlying4
 a4:=Tryz.isAgg4
 z4:=Tryz.sizeOf4
 v4:=Tryz.zeroValue4
 t5:=Tryz.underlying5
 a5:=Tryz.isAgg5
 z5:=Tryz.sizeOf5
 v5:=Tryz.zeroValue5
 t9:=Tryz.underlying9
 a9:=Tryz.isAgg9
 z9:=Tryz.sizeOf9
 v9:=Tryz.zeroValue9
 t46:=Tryz.underlying330
 a46:=Tryz.isAgg330
 z46:=Tryz.sizeOf330
 v46:=Tryz.zeroValue330
 t51:=Tryz.underlying340
 a51:=Tryz.isAgg340
 z51:=Tryz.sizeOf340
 v51:=Tryz.zeroValue340
 t146:=Tryz.underlying343
 a146:=Tryz.isAgg343
 z146:=Tryz.sizeOf343
 v146:=Tryz.zeroValue343
 g1:=by kernel_rfl }
open Go.RowKit Go.Lib in
theorem Tryz.strings_Count_one (s:ByteArray)(c:UInt8)(w:World) :
 Calls Tryz.prog 251 #[.string s,.string ⟨#[c]⟩] w fun e w'=>e=.returned (.int .i64 (Lib.countByte s.data.toList c))∧w'=w:=Any.strings_Count_one Tryz.lays138 s c w
end Go.Proofs
end
section
set_option maxRecDepth 100000
set_option maxHeartbeats 2000000
namespace Go.Fly.Tryz
open Go Go.RowKit Go.Sort Off Go.Proofs.Tryz
theorem k8:Holds prog G0 111 ze4:=Holds.of_calls (fun rl args=>by unfold ze4;split <;> rfl) fun rl args w M vs hG hargs hpre=>by
 unfold ze4 at hpre ⊢
 split at hpre
 ·rename_i n
  obtain⟨hs,hv⟩:=hargs
  obtain⟨v0,rfl⟩:∃ v0,vs=#[v0]:=by
   have:vs.size=1:=hs
   match vs,this with
   | ⟨[v]⟩,_=>exact⟨v,rfl⟩
  have h0:v0=.int .i64 n:=(hv 0 _ rfl).int_inv
  subst h0
  have h3:=hG 3
  rw[G0_3] at h3
  have htab:Lib.TabIs prog w "internal/strconv.uint64pow10" .u64 Lib.pow10Tab:=by
   have hg:prog.globalNamed "internal/strconv.uint64pow10" = some 3:=by kernel_rfl
   generalize hq:([Value.int .u64 1,.int .u64 10,.int .u64 100,.int .u64 1000,.int .u64 10000,.int .u64 100000,.int .u64 1000000,.int .u64 10000000,.int .u64 100000000,.int .u64 1000000000,.int .u64 10000000000,.int .u64 100000000000,.int .u64 1000000000000,.int .u64 10000000000000,.int .u64 100000000000000,.int .u64 1000000000000000,.int .u64 10000000000000000,.int .u64 100000000000000000,.int .u64 1000000000000000000,.int .u64 10000000000000000000]:List Value)=q at h3
   cases h3 with
   | tabp _ _ ty fz hM hb hh =>
     have hh':w.heap[3]?=some (.cells q.toArray ty fz):=hh
     unfold Lib.TabIs World.var?
     rw[hg]
     show (match w.heap[3]? with
      | some (.cells cs _ _)=>some cs
      | _=>none)=_
     rw[hh']
     subst hq
     rfl
  refine(Proofs.Tryz.strconv_Itoa n hpre.1 hpre.2 w htab).mono ?_
  rintro e w' ⟨rfl,k,os,rfl⟩
  exact⟨_,rfl,zkc ..,fun k=>.str _⟩
 ·exact hpre.elim
theorem ze3:Holds prog G0 139 zgS:=Holds.of_calls (fun rl args=>by unfold zgS;split <;> rfl) fun rl args w M vs hG hargs hpre=>by
 unfold zgS at hpre ⊢
 split at hpre
 ·rename_i n sz get sep
  obtain⟨rfl,hst,hn,hlen⟩:=hpre
  obtain⟨hs,hv⟩:=hargs
  obtain⟨v0,v1,rfl⟩:∃ v0 v1,vs=#[v0,v1]:=by
   have:vs.size=2:=hs
   match vs,this with
   | ⟨[v,u]⟩,_=>exact⟨v,u,rfl⟩
  have h1:v1=.string ⟨sep.toArray⟩:=(hv 1 _ rfl).str_inv
  subst h1
  have h0:R (yN w M) (.sl n 1 get) v0:=hv 0 _ rfl
  cases h0 with
  | sl0 _ _ oa cap =>
    refine(Proofs.Tryz.strings_Join_none oa cap ⟨sep.toArray⟩ w).mono ?_
    rintro e w' ⟨rfl,rfl⟩
    exact⟨_,rfl,Below.refl _ _,fun k=>.str []⟩
  | sl _ _ _ b off cap x hM hb hcap hp hl hc hr =>
    have hb':b < w.heap.size:=hb
    have hxs:∀ (j:Nat) (y:ByteArray),((List.range n).map fun i=>(⟨(zeA get i).toArray⟩:ByteArray))[j]?=some y→w.cell? ⟨b,off+j,none⟩=some (.string y):=fun j y hy=>by
     rw[List.getElem?_map] at hy
     rcases Nat.lt_or_ge j n with q | q
     ·rw[List.getElem?_range q] at hy
      cases hy
      have e1:=hc j 0 q (by decide)
      have e2:=hr j 0 (.str (zeA get j)) q (by rw[hst.2 j q];rfl)
      rw[e2.str_inv,Nat.mul_one] at e1
      exact e1
     ·rw[List.getElem?_eq_none (by rw[List.length_range];exact q)] at hy
      cases hy
    have hjl:((List.range n).map fun i=>(⟨(zeA get i).toArray⟩:ByteArray)).map (·.data.toList)=(List.range n).map (zeA get):=by
     rw[List.map_map];exact List.map_congr_left fun i _=>rfl
    have hl2:((List.range n).map fun i=>(⟨(zeA get i).toArray⟩:ByteArray)).length=n:=by rw[List.length_map,List.length_range]
    have:=Proofs.Tryz.strings_Join b off cap ((List.range n).map fun i=>(⟨(zeA get i).toArray⟩:ByteArray)) ⟨sep.toArray⟩ w hxs hb' (by rw[hl2];omega) (by rw[hl2];exact hcap) (by rw[hjl];exact hlen)
    rw[hl2,hjl] at this
    refine this.mono ?_
    rintro e w' ⟨rfl,hbel⟩
    exact⟨_,rfl,hbel,fun k=>.str _⟩
 ·exact hpre.elim
theorem zda (s:Str):(qV s).length=7:=by simp[qV]
theorem zlH:Holds prog G0 247 (zie 111):=by
 refine Holds.of_exC D247 func247 rfl zK (by kernel_rfl) (tab [(111,ze4)]) (zk ⟨k8,trivial⟩) zw fun k0 rl args hpu hpre=>?_
 unfold zie at hpre ⊢
 obtain⟨l,rfl,hl,h64⟩:=hpre
 simp only[zE,qL]
 simp only[f247]
 rw[zb (Nat.le_of_ble_eq_true rfl)]
 simp(maxSteps:=4000000) only[go_sem,↓zj,zh]
 refine zB.ents (wu.nilArr (d:=5) (l:=(4,1000)) 1 (fun _=>[]) rfl rfl rfl) ?_
 simp(maxSteps:=4000000) only[go_sem,↓zj]
 refine zB.loopF (β:=Nat) [(5,5),(7,7),(10,20)] (fun i=>[(5,.msl (4,1000) 0 i),(10,.int .i64 i)]) (fun i=>updH (fun _=>none) (4,1000) (.arr i 1 (fun i=>[.str (Lib.itoa (el l i))]))) (fun i=>i≤l.length) (fun i=>l.length - i) 0 (Nat.zero_le _) ?_ (zy.arr1 (zd _ _ _) rfl rfl fun i hi=>by omega) ?_
 ·simp(maxSteps:=4000000) only[go_sem,↓zj]
  try simp
 ·intro ck i hck hi
  generalize hq0:exC _ _ _ _ _=gg
  by_cases hlt:i < l.length
  ·have hd:decide ((i:Int) < (l.length:Int))=true:=by simp;omega
   rw[← hq0]
   clear hq0
   simp(maxSteps:=4000000) only[go_sem,↓zj,hd,zh]
   exact⟨⟨by omega,by omega⟩,h64 _ (wd hlt),⟨by omega,by omega,wG rfl yx⟩,zn (by omega) (by omega),i+1,hlt,by omega,⟨rfl,rfl⟩,zy.arr1 (zd _ _ _) rfl rfl fun j hj=>snoc (f:=fun i=>[.str (Lib.itoa (el l i))]) rfl rfl hj⟩
  ·have hd:decide ((i:Int) < (l.length:Int))=false:=by simp;omega
   obtain rfl:i=l.length:=by omega
   rw[← hq0]
   clear hq0
   simp(maxSteps:=4000000) only[go_sem,↓zj,hd,Nat.zero_add]
   exact wP (by simp) fun i hi=>by rw[vD Lib.itoa l (by simpa using hi)]
theorem oBody_ok:Holds prog G0 201 zh9:=by
 refine Holds.of_exC D201 func201 rfl zK (by kernel_rfl) (tab [(111,ze4),(139,zgS),(247,zie 111),(zm 1,zG),(yJ 17,zG)]) (zk ⟨k8,ze3,zlH,za,za,trivial⟩) zw fun k0 rl args hpu hpre=>?_
 unfold zh9 at hpre ⊢
 obtain⟨e,rfl,hr⟩:=hpre
 simp only[zE,zq,wH]
 have hbl:=zac hr
 obtain⟨hb1,hb2⟩:=zcq hr
 have hl2:2+e.names.length+(List.map Lib.itoa e.vals).length=(vU e).length:=by
  unfold vU
  rw[List.length_append,List.length_append]
  rfl
 have hrow:∀ (hp:Heap) (k:Nat),yA (frz 4 hp) (if k < 2+e.names.length then (if k < 2 then wa [V.str (Lib.itoa e.num),.str e.kind] 1 k else [.str (el e.names (k - 2))]) else [.str (el (List.map Lib.itoa e.vals) (k - (2+e.names.length)))])=[V.str (el (vU e) k)]:=fun hp k=>by
  have q:(if k < 2+e.names.length then (if k < 2 then wa [V.str (Lib.itoa e.num),.str e.kind] 1 k else [.str (el e.names (k - 2))]) else [.str (el (List.map Lib.itoa e.vals) (k - (2+e.names.length)))])=[V.str (el (vU e) k)]:=by
   unfold vU el
   simp only[List.getD_eq_getElem?_getD]
   by_cases h1:k < 2+e.names.length
   ·rw[if_pos h1,List.getElem?_append_left (by simp only[List.length_append,List.length_cons,List.length_nil];omega)]
    by_cases h2:k < 2
    ·rw[if_pos h2,List.getElem?_append_left (by simpa using h2)]
     rcases k with _ | _ | k
     ·rfl
     ·rfl
     ·omega
    ·rw[if_neg h2,List.getElem?_append_right (by simp only[List.length_cons,List.length_nil];omega)]
     rfl
   ·rw[if_neg h1,List.getElem?_append_right (by simp only[List.length_append,List.length_cons,List.length_nil];omega),List.length_append]
    rfl
  rw[q]
  exact ww yx.pu
 have hjb:zfx (vU e).length (fun k=>[V.str (el (vU e) k)]) [32]=zb2 e:=by
  unfold zfx zb2
  congr 1
  exact jH (vU e)
 simp only[f201]
 rw[zb (Nat.le_of_ble_eq_true rfl)]
 simp(maxSteps:=4000000) only[go_sem,↓zj,encEv,zg,Nat.zero_add,hrow,hl2,hjb]
 exact⟨hr.num,⟨by omega,by omega⟩,⟨_,rfl,by have:=hr.vals;omega,hr.ints⟩,⟨by omega,by omega⟩,⟨⟨⟨by omega,fun i hi=>rfl⟩,by omega,by omega⟩,.str _⟩,zo.of_eq rfl⟩
theorem zap:Holds prog G0 120 jG:=by
 refine Holds.of_exC D120 func120 rfl zK (by kernel_rfl) (tab [(201,zh9),(202,ko),(zm 1,zG)]) (zk ⟨oBody_ok,zjw,za,trivial⟩) zw fun k0 rl args hpu hpre=>?_
 unfold jG at hpre ⊢
 obtain⟨e,rfl,hr⟩:=hpre
 simp only[zE,zq,wH]
 have hbl:=zac hr
 have hck:=zda (zb2 e)
 simp only[f120]
 rw[zb (Nat.le_of_ble_eq_true rfl)]
 simp(maxSteps:=4000000) only[go_sem,↓zj,encEv]
 exact⟨⟨e,rfl,hr⟩,by omega,⟨_,rfl,by omega⟩,by rw[List.length_append,hck];simp only[List.length_cons,List.length_nil];omega,by rw[List.length_append,List.length_append,hck];simp only[List.length_cons,List.length_nil];omega,zo.of_eq rfl⟩
theorem zmh:Holds prog G0 252 zgZ:=Holds.of_calls (fun rl args=>rfl) fun rl args w M vs hG hargs hpre=>by
 obtain⟨s,c,rfl,hl⟩:=hpre
 obtain⟨hs,hv⟩:=hargs
 obtain⟨v0,v1,rfl⟩:∃ v0 v1,vs=#[v0,v1]:=by
  have:vs.size=2:=hs
  match vs,this with
  | ⟨[v,u]⟩,_=>exact⟨v,u,rfl⟩
 have h0:v0=.string ⟨s.toArray⟩:=(hv 0 _ rfl).str_inv
 have h1:v1=.string ⟨#[c]⟩:=(hv 1 _ rfl).str_inv
 subst h0
 subst h1
 refine(Proofs.Tryz.strings_Index_one ⟨s.toArray⟩ c w).mono ?_
 rintro e w' ⟨rfl,rfl⟩
 exact⟨_,rfl,Below.refl _ _,fun k=>.int _ _⟩
theorem zmi:Holds prog G0 251 zh6:=Holds.of_calls (fun rl args=>rfl) fun rl args w M vs hG hargs hpre=>by
 obtain⟨s,c,rfl,hl⟩:=hpre
 obtain⟨hs,hv⟩:=hargs
 obtain⟨v0,v1,rfl⟩:∃ v0 v1,vs=#[v0,v1]:=by
  have:vs.size=2:=hs
  match vs,this with
  | ⟨[v,u]⟩,_=>exact⟨v,u,rfl⟩
 have h0:v0=.string ⟨s.toArray⟩:=(hv 0 _ rfl).str_inv
 have h1:v1=.string ⟨#[c]⟩:=(hv 1 _ rfl).str_inv
 subst h0
 subst h1
 refine(Proofs.Tryz.strings_Count_one ⟨s.toArray⟩ c w).mono ?_
 rintro e w' ⟨rfl,rfl⟩
 exact⟨_,rfl,Below.refl _ _,fun k=>.int _ _⟩
theorem kGen_ok:Holds prog G0 209 za2:=by
 refine Holds.of_exC D209 func209 rfl zK (by kernel_rfl) (tab [(251,zh6),(252,zgZ)]) (zk ⟨zmi,zmh,trivial⟩) zw fun k0 rl args hpu hpre=>?_
 unfold za2 at hpre ⊢
 obtain⟨s,c,rfl,hl⟩:=hpre
 simp only[zE,zV,zF,List.getD_cons_zero]
 obtain⟨n,hn⟩:∃ n,n=s.count c:=⟨_,rfl⟩
 have hnl:n≤s.length:=by rw[hn];exact List.count_le_length
 have hmin:min ((n:Int)+1) ((s.length:Int)+1)=((n+1:Nat):Int):=by omega
 have hn1:((n+1:Nat):Int) - 1=(n:Int):=by omega
 simp only[f209]
 rw[zb (Nat.le_of_ble_eq_true rfl)]
 simp(maxSteps:=4000000) only[go_sem,↓zj,← hn,hmin,hn1]
 refine⟨⟨s,c,rfl,hl⟩,zn (by omega) (by omega),zn (by omega) (by omega),⟨by omega,by omega,by omega,by omega⟩,zn (by omega) (by omega),?_⟩
 refine zB.loopF (β:=Nat) [(0,0),(10,11),(34,57)] (fun i=>[(0,.str (jo c s i)),(10,.int .i64 i)]) (fun i=>updH (fun _=>none) (8,31) (.arr (n+1) 1 fun j=>[.str (if j < i then zlp c s j else [])])) (fun i=>i≤n) (fun i=>n - i) 0 (Nat.zero_le _) ?_ (zy.arr1 (zd _ _ _) rfl rfl fun j hj=>rfl) ?_
 ·simp(maxSteps:=400000) only[go_sem,↓zj]
  try exact rfl
 ·intro ck i hck hi
  have hi:i≤n:=hi
  have hrl:=zhG c s i
  have hrc:=qC (c:=c) (s:=s) (i:=i) (by omega)
  generalize hq0:exC _ _ _ _ _=gg
  by_cases hlt:i < n
  ·have hd:decide ((i:Int) < (n:Int))=true:=decide_eq_true (by omega)
   obtain⟨q1,q2,q3,q4⟩:=za0 (c:=c) (s:=jo c s i) (by omega)
   have hd2:decide ((zg4 c (jo c s i):Int) < 0)=false:=decide_eq_false (by omega)
   rw[← hq0]
   clear hq0
   simp(maxSteps:=400000) only[go_sem,↓zj,hd,q1,hd2]
   refine⟨⟨_,c,rfl,by omega⟩,zn (by omega) (by omega),⟨by omega,by omega⟩,⟨by omega,by omega,by omega⟩,zn (by omega) (by omega),⟨by omega,by omega,by omega⟩,zn (by omega) (by omega),by omega,i+1,hlt,by omega,⟨?_,by rw[Int.natCast_add];rfl⟩,zy.arr1 (zd _ _ _) rfl rfl fun j hj=>?_⟩
   ·rw[List.take_length]
    rfl
   ·rw[Nat.zero_add]
    by_cases e:j=i
    ·subst e
     rw[if_pos (by omega),if_pos rfl,show ((zg4 c (jo c s j):Int)+0).toNat=zg4 c (jo c s j) by omega]
     rfl
    ·rw[if_neg e]
     by_cases q:j < i
     ·rw[if_pos q,if_pos (by omega)]
     ·rw[if_neg q,if_neg (by omega)]
  ·have hd:decide ((i:Int) < (n:Int))=false:=decide_eq_false (by omega)
   obtain rfl:i=n:=by omega
   rw[← hq0]
   clear hq0
   simp(maxSteps:=400000) only[go_sem,↓zj,hd,Nat.zero_add]
   refine⟨⟨by omega,by omega⟩,zn (by omega) (by omega),⟨by omega,by omega⟩,?_⟩
   have hsl:=zkx c s
   rw[show ((i:Int)+1).toNat=i+1 by omega]
   refine wP (by rw[hsl];omega) fun j hj=>?_
   rw[split_el,← hn]
   rw[hsl,← hn] at hj
   by_cases e:j=i
   ·subst e
    rw[if_pos rfl,if_neg (Nat.lt_irrefl _),if_pos rfl]
    exact ww yx.pu
   ·rw[if_neg e,if_pos (show j < i by omega),if_pos (show j < i by omega)]
    exact ww yx.pu
theorem zfw:Holds prog G0 127 zbB:=by
 refine Holds.of_exC D127 func127 rfl zK (by kernel_rfl) (tab [(209,za2)]) (zk ⟨kGen_ok,trivial⟩) zw fun k0 rl args hpu hpre=>?_
 unfold zbB at hpre ⊢
 obtain⟨s,c,rfl,hl⟩:=hpre
 simp only[zE,zV,zF,List.getD_cons_zero]
 simp only[f127]
 rw[zb (Nat.le_of_ble_eq_true rfl)]
 simp(maxSteps:=4000000) only[go_sem,↓zj]
 exact⟨⟨s,c,rfl,hl⟩,zo.of_eq rfl⟩
end Go.Fly.Tryz
end
