/- From the data that a call of the laws on the office is handed. -/
import Derived.Test.YtkfbgillhhhdgaaGreatDoorSYOEn
import Derived.Test.YtkfbgillhhhdgaaGreatDoorAR
import Derived.Test.YtkfbgillhhhdgaaGreatDoorBB
import Derived.Test.YtkfbgillhhhdgaaGreatDoorRows
import Derived.OpenShut
import Derived.Lay
import Derived.SevenTiedAt
set_option linter.unusedSimpArgs false
set_option linter.unusedVariables false
set_option maxRecDepth 100000
namespace Go.Fly.Tryz
open Go Go.ChangeShapes Go.WideShapes Go.RowKit Off Go.Proofs.Tryz
theorem c3:prog.cellsOf 3=1:=by kernel_rfl
theorem c9:prog.cellsOf 9=1:=by kernel_rfl
theorem c23:prog.cellsOf 23=1:=by kernel_rfl
theorem c24:prog.cellsOf 24=1:=by kernel_rfl
theorem c26:prog.cellsOf 26=5:=by kernel_rfl
theorem c266:prog.cellsOf 266=2:=by kernel_rfl
theorem c324:prog.cellsOf 324=1:=by kernel_rfl
theorem c337:prog.cellsOf 337=10:=by kernel_rfl
theorem c339:prog.cellsOf 339=20:=by kernel_rfl
theorem rI (W:World):vg prog W 3 1 SI:=zcL underlying3
theorem rS (W:World):vg prog W 9 1 SS:=zeR underlying9
theorem rStrs (W:World):vg prog W 23 1 SStrs:=zjh underlying23 c9 underlying9
theorem rInts (W:World):vg prog W 24 1 SInts:=zji underlying24 c3 underlying3
theorem rEv (W:World):vg prog W 26 5 SEv :=
 Off.vg.mono (zeQ [(3,1,SI),(9,1,SS),(23,1,SStrs),(24,1,SInts),(9,1,SS)] underlying26 c26 ⟨rI W,rS W,rStrs W,rInts W,rS W,trivial⟩ fun tr cs h=>by
  have h0:tr 3 ((cs.drop 0).take (prog.cellsOf 3)):=h 0 _ rfl
  have h1:tr 9 ((cs.drop 1).take (prog.cellsOf 9)):=h 1 _ rfl
  have h2:tr 23 ((cs.drop 2).take (prog.cellsOf 23)):=h 2 _ rfl
  have h3:tr 24 ((cs.drop 3).take (prog.cellsOf 24)):=h 3 _ rfl
  have h4:tr 9 ((cs.drop 4).take (prog.cellsOf 9)):=h 4 _ rfl
  rw[c3] at h0
  rw[c9] at h1 h4
  rw[c23] at h2
  rw[c24] at h3
  exact⟨h0,h1,h2,h3,h4,trivial⟩) fun g h=>seq_ev h
theorem rEvs (W:World):vg prog W 22 1 SEvs:=zl4 underlying22 c26 (rEv W)
theorem _root_.Go.Fly.Off.EvGo.len {e:Ev}(h:EvGo e):EvLen e:=⟨h.names,h.vals,h.strs,h.kind,h.text⟩
theorem str_of {k:K}(z:ByteArray):R k (.str z.data.toList) (.string z):=by
 have:(⟨z.data.toList.toArray⟩:ByteArray)=z:=by cases z;simp
 rw[show Value.string z=.string ⟨z.data.toList.toArray⟩ by rw[this]]
 exact .str _
theorem gFinal:prog.globalNamed "flyover/office.final" = some 0:=by kernel_rfl
theorem tFinal:(prog.globals[0]?).map (·.type)=some 266:=by kernel_rfl
theorem gBase:prog.globalNamed "flyover/sound.base" = some 2:=by kernel_rfl
theorem tBase:(prog.globals[2]?).map (·.type)=some 337:=by kernel_rfl
theorem gPow:prog.globalNamed "internal/strconv.uint64pow10" = some 3:=by kernel_rfl
theorem tPow:(prog.globals[3]?).map (·.type)=some 339:=by kernel_rfl
theorem zm8:laidOutB prog=true:=by kernel_rfl
theorem zln {W:World}{cs:Array Value}{fuel:Nat}{p:List MemPlace}(h:DataW.trod (fun _=>()) prog W 0 (fun _=>true) false fuel 339 cs.toList=some (Proofs.YtkfbgillhhhdgaaGreatDoor.Rows.laid_internal_strconv_uint64pow10,p)):cs=(Lib.pow10Tab.map (Value.int .u64)).toArray:=by
 obtain⟨xs,m,-,hx,h1,h2,h3⟩:=DataW.trod_array underlying339 h
 rw[c339] at h1
 have e0:(DataW.agg (xs.map (·.1)):DataW Unit)=.agg (Lib.pow10Tab.map fun z=>.lit (.int .u64 z)):=by
  simp only[Prod.mk.injEq] at hx
  rw[← hx.1]
  rfl
 simp only[DataW.agg.injEq] at e0
 apply Array.toList_inj.1
 apply List.ext_getElem?
 intro j
 rcases Nat.lt_or_ge j 20 with hj | hj
 ·have h4:=h3 j hj
  rw[c324,Nat.mul_one,List.getElem?_eq_getElem (by omega)] at h4
  obtain⟨z,q1,q2,-⟩:=DataW.trod_int (k:=.u64) underlying324 h4
  have e1:(xs.map (·.1))[j]?=(Lib.pow10Tab.map fun z=>(DataW.lit (.int .u64 z):DataW Unit))[j]?:=by rw[e0]
  have hl:j < Lib.pow10Tab.length:=by rw[Lib.pow10Tab_length];exact hj
  rw[List.getElem?_map,List.getElem?_map,List.getElem?_eq_getElem (by omega:j < xs.length),List.getElem?_eq_getElem hl,q2] at e1
  simp only[Option.map_some,Option.some.injEq,DataW.lit.injEq,Lit.int.injEq,true_and] at e1
  have e2:cs.toList[j]?=((cs.toList.drop j).take 1)[0]?:=by rw[List.getElem?_take_of_lt (by decide),List.getElem?_drop,Nat.add_zero]
  rw[e2,q1,List.getElem?_map,List.getElem?_eq_getElem hl,e1]
  rfl
 ·rw[List.getElem?_eq_none (by omega),List.getElem?_eq_none (by simp[Lib.pow10Tab_length];omega)]
theorem zm6 {P:Program}{W:World}{H:Type}{enc:TypeId×Value→H}{held:Bool}{fuel:Nat}{t e:TypeId}{n:Nat}{cs:List Value}{zs:List (List UInt8)}{p:List MemPlace}
 (ht:P.underlying t=some (.array n e)) (he:P.underlying e=some .string) (hc:P.cellsOf e=1) (hct:P.cellsOf t=n)
 (h:DataW.trod enc P W 0 (fun _=>true) held fuel t cs=some (.agg (zs.map fun z=>.lit (.string z)),p)):∀ j,j < zs.length→cs[j]?=some (.string ⟨(zs.getD j []).toArray⟩):=by
 obtain⟨xs,m,-,hx,h1,h2,h3⟩:=DataW.trod_array ht h
 intro j hj
 simp only[Prod.mk.injEq,DataW.agg.injEq] at hx
 have hlen:zs.length=xs.length:=by have:=congrArg List.length hx.1;simpa using this
 have hj2:j < n:=by omega
 have h4:=h3 j hj2
 rw[hc,Nat.mul_one,List.getElem?_eq_getElem (by omega)] at h4
 obtain⟨z,q1,q2,-⟩:=DataW.trod_string he h4
 have e1:(zs.map fun z=>(DataW.lit (.string z):DataW H))[j]?=(xs.map (·.1))[j]?:=by rw[hx.1]
 rw[List.getElem?_map,List.getElem?_map,List.getElem?_eq_getElem hj,List.getElem?_eq_getElem (by omega:j < xs.length),q2] at e1
 simp only[Option.map_some,Option.some.injEq,DataW.lit.injEq,Lit.string.injEq] at e1
 have e2:cs[j]?=((cs.drop j).take 1)[0]?:=by rw[List.getElem?_take_of_lt (by decide),List.getElem?_drop,Nat.add_zero]
 rw[e2,q1,List.getD_eq_getElem?_getD,List.getElem?_eq_getElem hj]
 have e3:z=⟨zs[j].toArray⟩:=by
  apply ByteArray.ext
  apply Array.toList_inj.1
  simp[e1]
 simp[e3]
end Go.Fly.Tryz
namespace Go.Proofs.YtkfbgillhhhdgaaGreatDoor
open Go Go.ChangeShapes Go.WideShapes Go.RowKit Go.Fly Go.Fly.Off Go.Fly.Tryz Go.Proofs.Tryz
abbrev zgQ:List (String×DataW Unit):=[("math/bits.deBruijn32tab", Rows.laid_math_bits_deBruijn32tab),("math/bits.deBruijn64tab", Rows.laid_math_bits_deBruijn64tab),("internal/strconv.uint64pow10", Rows.laid_internal_strconv_uint64pow10),("unicode/utf8.acceptRanges", Rows.laid_unicode_utf8_acceptRanges),("flyover/sound.base", Rows.laid_flyover_sound_base),("flyover/office.final", Rows.laid_flyover_office_final),("unicode/utf8.first", Rows.laid_unicode_utf8_first)]
theorem own:ownKnob Tryz.prog.godebug=none:=by kernel_rfl
theorem laid_met (os:Os)(args:Array Value):laidMetH Tryz.prog zgQ ((World.laidAll Tryz.prog os zgQ).forCall (fun _ _=>0) ⟨#[],args,[]⟩).memory:=by
 rw[MakeChecks.laidMetH_plain _ _ _ (by kernel_rfl)];exact laidMet_laidAll _ (by kernel_rfl) (by kernel_rfl)
def znp:List Int:=[10,13,16,20,25,32,40,50,63,79]
def zmA:List (List UInt8):=[[112,117,98,108,105,115,104],[112,97,121]]
theorem zjQ {W:World}(h:laidMetH Tryz.prog zgQ W)(g:Nat):R (yN W (fun _=>False)) (G0 g) (.pointer (some ⟨g,0,none⟩)):=by
 rw[MakeChecks.laidMetH_plain _ _ _ (by kernel_rfl)] at h
 obtain⟨ps,⟨_,_,_,_,_,_,_,_,_,_,⟨_,_,_,_,_,_,_,_,_,_,⟨g2,t2,c2,f2,p2,q2,hg2,ht2,hv2,hd2,⟨_,_,_,_,_,_,_,_,_,_,⟨g4,t4,c4,f4,p4,q4,hg4,ht4,hv4,hd4,⟨g5,t5,c5,f5,p5,q5,hg5,ht5,hv5,hd5,-⟩,-⟩,-⟩,-⟩,-⟩,-⟩,-⟩:=h
 obtain rfl:=Option.some.inj (gPow.symm.trans hg2)
 obtain rfl:=Option.some.inj (tPow.symm.trans ht2)
 obtain rfl:=Option.some.inj (gBase.symm.trans hg4)
 obtain rfl:=Option.some.inj (tBase.symm.trans ht4)
 obtain rfl:=Option.some.inj (gFinal.symm.trans hg5)
 obtain rfl:=Option.some.inj (tFinal.symm.trans ht5)
 have hb:∀ j,j < 10→W.cell? ⟨2,j,none⟩=some (.int .i64 (znp.getD j 0)):=fun j hj=>by
  have h1:=World.var?_cell hg4 hv4 j
  have h2:=zm7 (zs:=znp) Tryz.underlying337 Tryz.underlying3 c3 c337 hd4 j hj
  rw[h1,← h2]
  simp
 have hf:∀ j,j < 2→W.cell? ⟨0,j,none⟩=some (.string ⟨(zmA.getD j []).toArray⟩):=fun j hj=>by
  have h1:=World.var?_cell hg5 hv5 j
  have h2:=zm6 (zs:=zmA) Tryz.underlying266 Tryz.underlying9 c9 c266 hd5 j hj
  rw[h1,← h2]
  simp
 unfold G0
 split
 ·rename_i e
  subst e
  refine .cptr _ 0 0 (fun j=>.string ⟨(zmA.getD j []).toArray⟩) (fun q=>q) (World.lt_of_cell (hf 0 (by decide))) (by simp only[go_sem,↓zj]) (fun j hj=>?_) (fun j v hv=>?_)
  ·rw[Nat.zero_add];exact hf j hj
  ·match j,hv with
   | 0,hv=>cases hv;exact .str _
   | 1,hv=>cases hv;exact .str _
   | j+2,hv=>simp at hv
 split
 ·rename_i e
  subst e
  refine .cptr _ 2 0 (fun j=>.int .i64 (znp.getD j 0)) (fun q=>q) (World.lt_of_cell (hb 0 (by decide))) (by simp only[go_sem,↓zj]) (fun j hj=>?_) (fun j v hv=>?_)
  ·rw[Nat.zero_add];exact hb j hj
  ·have e:[V.int .i64 10,.int .i64 13,.int .i64 16,.int .i64 20,.int .i64 25,.int .i64 32,.int .i64 40,.int .i64 50,.int .i64 63,.int .i64 79]=znp.map (V.int .i64):=rfl
   rw[e,List.getElem?_map] at hv
   cases hb:znp[j]? with
   | none=>rw[hb] at hv;cases hv
   | some z =>
     rw[hb] at hv
     cases hv
     rw[List.getD_eq_getElem?_getD,hb]
     exact .int _ _
 split
 ·rename_i e
  subst e
  have e3:=zln hd2
  have h3:=hv2
  unfold World.var? at h3
  rw[gPow] at h3
  have h3:(match W.heap[3]? with
   | some (Obj.cells cs _ _)=>some cs
   | _=>none)=some c2:=h3
  cases hh:W.heap[3]? with
  | none=>rw[hh] at h3;cases h3
  | some o =>
    rw[hh] at h3
    cases o with
    | cells cs ty fz =>
      have h3:some cs=some c2:=h3
      cases h3
      refine .tabp _ 3 ty fz (fun q=>q) (Array.getElem?_eq_some_iff.1 hh).1 ?_
      show W.heap[3]?=_
      rw[hh,e3]
      rfl
    | _=>cases h3
 ·exact .top _
theorem zmg:laidOutB Tryz.checked.prog=true:=by kernel_rfl
theorem k_maps:mapsRowed Tryz.checked.prog=true:=by kernel_rfl
theorem k_enter:Tryz.checked.prog.mayEnter=true:=by kernel_rfl
theorem k_heard:Tryz.checked.prog.stopsHeard=true:=by kernel_rfl
theorem k_main:Tryz.checked.prog.mainIs=some (true, "955b595cc5385ef7a002e46dd68bcc84f6d549330109667ecef86e1e8b51a6b5".toList):=by kernel_rfl
theorem k_looks:false=Tryz.checked.prog.looks []:=by kernel_rfl
end Go.Proofs.YtkfbgillhhhdgaaGreatDoor
