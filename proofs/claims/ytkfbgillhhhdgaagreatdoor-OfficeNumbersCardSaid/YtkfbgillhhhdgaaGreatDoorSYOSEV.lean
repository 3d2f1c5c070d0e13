/- Part of a proof. No conditions. -/
import Derived.Test.YtkfbgillhhhdgaaGreatDoorSYORV
import Derived.Test.YtkfbgillhhhdgaaGreatDoorSYORM
import Derived.Test.YtkfbgillhhhdgaaGreatDoorBB
import Derived.Test.YtkfbgillhhhdgaaGreatDoorSYORO
import Derived.Test.YtkfbgillhhhdgaaGreatDoorSYORB
import Derived.Test.YtkfbgillhhhdgaaGreatDoorSYORJ
import Derived.Test.YtkfbgillhhhdgaaGreatDoorSYOSU
import Derived.Test.YtkfbgillhhhdgaaGreatDoorCards
import Derived.Test.YtkfbgillhhhdgaaGreatDoorTie
set_option linter.unusedSimpArgs false
set_option linter.unusedVariables false
section
set_option maxRecDepth 100000
set_option maxHeartbeats 1000000
namespace Go.Fly.Tryz
open Go Off
end Go.Fly.Tryz
end
section
set_option maxRecDepth 100000
set_option maxHeartbeats 1000000
namespace Go.Fly.Tryz
open Go Off Go.Proofs.Tryz
theorem znF:Holds prog G0 32 znJ:=by
 refine Holds.of_exC D32 func32 rfl zK (by kernel_rfl) (tab [(108,zhI),(zm 2,zG)]) (zk ⟨zjm,za,trivial⟩) zw fun k0 rl args hpu hpre=>?_
 unfold znJ at hpre ⊢
 obtain⟨r,i0,rfl,hi0,hco,hu⟩:=hpre
 simp only[zE,zV,zq,zN,wv]
 have hti:((i0:Int)).toNat=i0:=by omega
 rw[hti]
 have h64:=hco.many
 obtain⟨h,hh⟩:∃ h,el r.houses i0=h:=⟨_,rfl⟩
 rw[hh] at hco ⊢
 have hfl:zf 5 zM r.flights=.sl r.flights.length 5 fun i=>zM (el r.flights i):=rfl
 have hhl:zf 2 zZ r.houses=.sl r.houses.length 2 fun i=>zZ (el r.houses i):=rfl
 have htl:zf 3 wg r.types=.sl r.types.length 3 fun i=>wg (el r.types i):=rfl
 have hrl:=hco.rl.types
 simp only[f32]
 rw[zb (Nat.le_of_ble_eq_true rfl)]
 simp(maxSteps:=4000000) only[go_sem,↓zj,↓reduceIte,hfl,hhl,htl]
 refine zB.ents (wu.nilArr (d:=5) (l:=(4,1000)) 2 (fun _=>[]) rfl rfl rfl) ?_
 simp(maxSteps:=400000) only[go_sem,↓zj]
 refine zB.loopF (β:=Nat) [(5,60)] (fun i=>[(5,.msl (4,1000) 0 i),(6,.int .i64 i)]) (fun i=>updH (fun _=>none) (4,1000) (.arr i 2 (fun i=>wS (zh7 r h.share r.flights.length i)))) (fun i=>i≤r.types.length) (fun i=>r.types.length - i) 0 (Nat.zero_le _) ?_ (zy.arr1 (zd _ _ _) rfl rfl fun i hi=>by omega) ?_
 ·simp(maxSteps:=400000) only[go_sem,↓zj]
  try exact⟨rfl,rfl⟩
 ·intro ck i hck hi
  have hi:i≤r.types.length:=hi
  generalize hq0:exC _ _ _ _ _=gg
  by_cases hlt:i < r.types.length
  ·have hd:decide ((i:Int) < (r.types.length:Int))=true:=decide_eq_true (by omega)
   rw[← hq0]
   clear hq0
   simp(maxSteps:=400000) only[go_sem,↓zj,↓reduceIte,hd,hfl,hhl,htl,zM,zZ,hti,hh]
   refine zB.loopF (β:=Nat) [(7,8),(16,49)] (fun n=>[(7,.int .i64 (btN r h.share i n)),(8,.int .i64 n)]) (fun n=>updH (fun _=>none) (4,1000) (.arr i 2 (fun i=>wS (zh7 r h.share r.flights.length i)))) (fun n=>n≤r.flights.length) (fun n=>r.flights.length - n) 0 (Nat.zero_le _) ?_ (zy.refl _) ?_
   ·simp(maxSteps:=400000) only[go_sem,↓zj]
    try exact rfl
   ·intro c2 n hck2 hn
    have hn:n≤r.flights.length:=hn
    have hbd:=bt_bd hco (j:=i) hn
    generalize hq1:exC _ _ _ _ _=gg
    by_cases hlt2:n < r.flights.length
    ·have hd2:decide ((n:Int) < (r.flights.length:Int))=true:=decide_eq_true (by omega)
     have hcd:=bt_cond hco hu hlt2 hlt
     have hbd2:=zfN hco (wd hlt2)
     cases hb:decide (zO (r.namesOf 116) (el r.flights n).type=i) with
     | true =>
       have hs:btN r h.share i (n+1)=btN r h.share i n+r.energyAt h.share (el r.flights n):=by
        show (if _ then _ else _)=_
        rw[if_pos (of_decide_eq_true hb)]
       rw[hb] at hcd
       rw[← hq1]
       clear hq1
       simp(maxSteps:=400000) only[go_sem,↓zj,↓reduceIte,hd2,hfl,hhl,htl,zM,zZ,wg,hti,hh,hcd]
       refine⟨⟨by omega,by omega⟩,⟨by omega,by omega⟩,⟨by omega,by omega⟩,⟨by omega,by omega⟩,⟨r,el r.flights n,h,rfl,hco,wd hlt2⟩,zn (by omega) (by omega),zn (by omega) (by omega),by omega,n+1,hlt2,by omega,⟨by rw[hs],rfl⟩,zy.refl _⟩
     | false =>
       have hs:btN r h.share i (n+1)=btN r h.share i n:=by
        show (if _ then _ else _)=_
        rw[if_neg (of_decide_eq_false hb)]
       rw[hb] at hcd
       rw[← hq1]
       clear hq1
       simp(maxSteps:=400000) only[go_sem,↓zj,↓reduceIte,hd2,hfl,hhl,htl,zM,zZ,wg,hti,hh,hcd]
       exact⟨⟨by omega,by omega⟩,⟨by omega,by omega⟩,zn (by omega) (by omega),by omega,n+1,hlt2,by omega,⟨by rw[hs],rfl⟩,zy.refl _⟩
    ·have hd2:decide ((n:Int) < (r.flights.length:Int))=false:=decide_eq_false (by omega)
     obtain rfl:n=r.flights.length:=by omega
     rw[← hq1]
     clear hq1
     simp(maxSteps:=400000) only[go_sem,↓zj,↓reduceIte,hd2,hfl,hhl,htl,zM,zZ,wg,hti,hh]
     refine⟨⟨by omega,by omega⟩,⟨by omega,by omega,wG rfl (vM ((el r.types i).name,btN r h.share i r.flights.length))⟩,zn (by omega) (by omega),by omega,i+1,hlt,by omega,⟨⟨rfl,rfl⟩,?_⟩,zy.arr1 (zd _ _ _) rfl rfl fun j hj=>snoc (f:=fun k=>wS (zh7 r h.share r.flights.length k)) rfl rfl hj⟩
     rw[zf7 (fun e he=>by simp[inD] at he ⊢;omega)]
     simp(maxSteps:=400000) only[go_sem,↓zj]
  ·have hd:decide ((i:Int) < (r.types.length:Int))=false:=decide_eq_false (by omega)
   obtain rfl:i=r.types.length:=by omega
   rw[← hq0]
   clear hq0
   simp(maxSteps:=400000) only[go_sem,↓zj,↓reduceIte,hd,hfl,htl,Nat.zero_add]
   have hlen:r.types.length=(r.byTypes h.share).length:=by simp[Reg.byTypes]
   refine zkn hlen fun k hk=>?_
   rw[ww (vM _).pu]
   unfold Reg.byTypes
   rw[ziL (by rw[← hlen] at hk;exact hk)]
end Go.Fly.Tryz
end
section
set_option maxRecDepth 100000
set_option maxHeartbeats 1000000
namespace Go.Fly.Tryz
open Go Off
end Go.Fly.Tryz
end
section
set_option maxRecDepth 100000
set_option maxHeartbeats 1000000
namespace Go.Fly.Tryz
open Go Off Go.Proofs.Tryz
theorem znK {get:Nat→List V}:Pu (.sl 0 2 get):=vW.2 fun i hi=>absurd hi (Nat.not_lt_zero i)
theorem znN:Holds prog G0 35 znC:=znM zkJ
theorem znI:Holds prog G0 4 znH:=by
 refine Holds.of_exC D4 func4 rfl zK (by kernel_rfl) (tab [(15,awkC),(16,zht),(22,zo9),(24,zbe),(25,zej),(26,btQC),(27,qY),(28,yd 104),(29,w7),(30,yf),(31,kI),(32,znJ),(33,zdI),(34,zdC),(35,znC),(36,zin)]) (zk ⟨zmb,zjj,zoa,znL,zjz,zgC,zjk,zbI,kJ,jI,zlc,znF,znP,zl5,znN,zma,trivial⟩) zw fun k0 rl args hpu hpre=>?_
 unfold znH at hpre ⊢
 obtain⟨l,s,rfl,⟨hl,hE⟩,hs⟩:=hpre
 cases s1:jE l 24 with
 | false =>
   simp only[f4]
   rw[zb (Nat.le_of_ble_eq_true rfl)]
   simp(maxSteps:=4000000) only[go_sem,↓zj,↓reduceIte,zf,s1]
   exact⟨⟨l,24,rfl,hl,hE⟩,zo.refl _⟩
 | true =>
   have hn:=zj3 (n:=24) s1
   have hm1:l.length≤1000000:=by omega
   have hB:=zj4 s1 hE
   by_cases h40:40 < s.length
   ·have d40:decide ((40:Int) < (s.length:Int))=true:=decide_eq_true (by omega)
    simp only[f4]
    rw[zb (Nat.le_of_ble_eq_true rfl)]
    simp(maxSteps:=4000000) only[go_sem,↓zj,↓reduceIte,zf,s1,d40]
    exact⟨⟨l,24,rfl,hl,hE⟩,zo.refl _⟩
   ·have d40:decide ((40:Int) < (s.length:Int))=false:=decide_eq_false (by omega)
    have hok:=(yS (lv:=levelE) l).1
    rcases znO l with⟨w,hr,hw⟩ | ⟨w,hr,hw⟩
    ·by_cases hm:s∈(replayed levelE l).1.now.namesOf 104
     ·have ha:jC l 104 s=0:=by unfold jC;rw[if_neg (fun q=>q w),decide_eq_true hm];rfl
      have hi:zd5 ((replayed levelE l).1.now.namesOf 104) s=((zO ((replayed levelE l).1.now.namesOf 104) s:Nat):Int):=yz hm
      obtain⟨p,hp⟩:∃ p,p=zO ((replayed levelE l).1.now.namesOf 104) s:=⟨_,rfl⟩
      have hpl:p < (replayed levelE l).1.now.houses.length:=by rw[hp];exact zU (f:=Ho.name) hm
      rw[← hp] at hi
      have dneg:decide ((p:Int) < 0)=false:=decide_eq_false (by omega)
      have f0:zv [0,err false 10]=0:=rfl
      have hho:(replayed levelE l).1.now.house s=el (replayed levelE l).1.now.houses p:=by rw[hp];rfl
      obtain⟨r,hr0⟩:∃ r,r=(replayed levelE l).1.now:=⟨_,rfl⟩
      have hch:ChainOk r (el r.houses p).share:=zjP (d:=r.day) (hr0 ▸ hok.good) (hr0 ▸ hpl)
      have hpn:((p:Nat):Int).toNat=p:=Int.toNat_natCast p
      have x1:znG l s=(zbu (r.chain (el r.houses p).share),levelE (zbu (r.chain (el r.houses p).share)),0):=by rw[← hr0] at hho;unfold znG;simp only[ha,hho,← hr0,ne_eq,not_true_eq_false,if_false]
      have x2:zfU l s=(r.chain (el r.houses p).share,0):=by rw[← hr0] at hho;unfold zfU;simp only[ha,hho,← hr0,ne_eq,not_true_eq_false,if_false]
      have x3:btE l s=(r.byTypes (el r.houses p).share,0):=by rw[← hr0] at hho;unfold btE;simp only[ha,hho,← hr0,ne_eq,not_true_eq_false,if_false]
      rw[← hr0] at hi hr hpl
      have hrl:RL r:=(hr0 ▸ hok.good:Off.Good r).rl
      have huq:UqR r:=hr0 ▸ znE l
      have hlc:(r.chain (el r.houses p).share).length≤1000000:=by have:=(zil hch).1;omega
      have hlb:(r.byTypes (el r.houses p).share).length≤1000000:=by unfold Reg.byTypes;rw[List.length_map,List.length_range];exact hrl.types
      have x4:r.level levelE (el r.houses p)=levelE (zbu (r.chain (el r.houses p).share)):=rfl
      simp only[f4]
      rw[zb (Nat.le_of_ble_eq_true rfl)]
      simp(maxSteps:=4000000) only[go_sem,↓zj,↓reduceIte,zf,s1,d40,hr,hw,hi,dneg,f0,hpn,x1,x2,x3,x4]
      (repeat' apply And.intro)
      all_goals first
       | exact⟨l,24,rfl,hl,hE⟩
       | exact⟨l,rfl,hm1,hB⟩
       | exact⟨l,s,rfl,hm1,hB⟩
       | exact zo.refl _
       | exact⟨r,s,rfl,hrl⟩
       | exact⟨r,p,rfl,hpl,hch⟩
       | exact⟨r,p,rfl,hpl,hch,huq⟩
       | exact⟨_,rfl,zil hch⟩
       | exact⟨_,_,rfl,zgT hlc⟩
       | exact⟨_,_,rfl,zgT hlb⟩
       | exact⟨_,_,rfl,.inl rfl,hlc⟩
       | exact⟨_,_,rfl,.inl rfl,hlb⟩
       | done
     ·have ha:jC l 104 s=10:=by unfold jC;rw[if_neg (fun q=>q w),decide_eq_false hm];rfl
      have hi:zd5 ((replayed levelE l).1.now.namesOf 104) s=-1:=if_neg hm
      have dneg:decide ((-1:Int) < 0)=true:=rfl
      have f0:zv [0,err true 10]=10:=rfl
      have hrl:RL (replayed levelE l).1.now:=hok.good.rl
      have x1:znG l s=(0,0,10):=by unfold znG;rw[if_pos (by rw[ha];decide),ha]
      have x2:zfU l s=([],10):=by unfold zfU;rw[if_pos (by rw[ha];decide),ha]
      have x3:btE l s=([],10):=by unfold btE;rw[if_pos (by rw[ha];decide),ha]
      simp only[f4]
      rw[zb (Nat.le_of_ble_eq_true rfl)]
      simp(maxSteps:=4000000) only[go_sem,↓zj,↓reduceIte,zf,s1,d40,hr,hw,hi,dneg,f0,x1,x2,x3]
      (repeat' apply And.intro)
      all_goals first
       | exact⟨l,24,rfl,hl,hE⟩
       | exact⟨l,rfl,hm1,hB⟩
       | exact⟨l,s,rfl,hm1,hB⟩
       | exact zo.refl _
       | exact znK
       | exact .inl znK
       | exact⟨_,s,rfl,hrl⟩
       | exact⟨0,_,rfl,by omega,fun i hi=>absurd hi (by omega)⟩
       | exact⟨[],.nils,rfl,.inr ⟨rfl,rfl⟩,by decide⟩
       | done
    ·have ha:jC l 104 s=(replayed levelE l).2.2:=by unfold jC;rw[if_pos w]
     have hi:zd5 (Reg.namesOf {} 104) s=-1:=rfl
     have dneg:decide ((-1:Int) < 0)=true:=rfl
     obtain⟨z,hz⟩:∃ z,z=(replayed levelE l).2.2:=⟨_,rfl⟩
     rw[← hz] at w hw ha
     have f0:zv [z,err true 10]=z:=by rw[wT,if_pos w]
     have dz:decide (z=0)=false:=decide_eq_false w
     have hrl:RL ({}:Reg):=⟨by decide,by decide,by decide,by decide,by decide,by decide⟩
     have x1:znG l s=(0,0,z):=by unfold znG;rw[if_pos (by rw[ha];exact w),ha]
     have x2:zfU l s=([],z):=by unfold zfU;rw[if_pos (by rw[ha];exact w),ha]
     have x3:btE l s=([],z):=by unfold btE;rw[if_pos (by rw[ha];exact w),ha]
     simp only[f4]
     rw[zb (Nat.le_of_ble_eq_true rfl)]
     simp(maxSteps:=4000000) only[go_sem,↓zj,↓reduceIte,zf,s1,d40,hr,hw,hi,dneg,f0,dz,x1,x2,x3]
     (repeat' apply And.intro)
     all_goals first
      | exact⟨l,24,rfl,hl,hE⟩
      | exact⟨l,rfl,hm1,hB⟩
      | exact⟨l,s,rfl,hm1,hB⟩
      | exact zo.refl _
      | exact znK
      | exact .inl znK
      | exact⟨_,s,rfl,hrl⟩
      | exact⟨0,_,rfl,by omega,fun i hi=>absurd hi (by omega)⟩
      | exact⟨[],.nils,rfl,.inr ⟨rfl,rfl⟩,by decide⟩
      | done
end Go.Fly.Tryz
end
section
set_option maxRecDepth 100000
namespace Go.Proofs.YtkfbgillhhhdgaaGreatDoor
open Go Go.ChangeShapes Go.WideShapes Go.RowKit Go.Fly Go.Fly.Off Go.Fly.Tryz Off
theorem read9:Tryz.prog.readableRec 9=true:=by kernel_rfl
theorem row9:9 < Tryz.prog.types.size:=of_decide_eq_true (by kernel_rfl)
theorem read22:Tryz.prog.readableRec 22=true:=by kernel_rfl
theorem row22:22 < Tryz.prog.types.size:=of_decide_eq_true (by kernel_rfl)
theorem lifted (os:Os)(started:os.Started)(H:Type)(enc:TypeId×Value→H) :
 ReturnsInHanded {} Tryz.checked os 4 .any (fun w args=>(Rows.officeNumbersSpec.pre enc Tryz.prog Tryz.f4 [] false w args∧laidMetH Tryz.prog zgQ w)∧sizedMet enc Tryz.prog Tryz.f4 (OpenSpec.ofChange Rows.officeNumbersSpec) false w args)
  (Rows.officeNumbersSpec.post enc Tryz.prog Tryz.f4 false true false false):=by
 refine returnsInHanded_of_change_and (C:=Tryz.checked) (X:=fun w _=>laidMetH Tryz.prog zgQ w) (fun _ _ _ hh h=>h.of_heap hh) own started (by kernel_rfl) Tryz.func4
  (ChangeSpec.witness_shaped (enc:=enc) (C:=Tryz.checked) (os:=os) (X:=fun w _=>laidMetH Tryz.prog zgQ w) false (World.laidAll Tryz.prog os zgQ)
   #[.slice none 0 0,.string ⟨#[]⟩] 8 (World.laidAll_os _ _ _) (World.shaped_of_ZipB (by kernel_rfl) (by kernel_rfl)) (by kernel_rfl) (by kernel_rfl) (by kernel_rfl) (laid_met os _)) ?_
 intro W base args ds gs before hval0 hW _ _ hL _
 have hval:∀ (j:Nat) t v,Tryz.f4.params[j]?=some t→args[j]?=some v→Value.okWide Tryz.prog W .any base t v:=hval0
 have hW':=hW
 obtain⟨p,q,hA0,hV,rfl,hfz,hnd⟩:=hW
 have hA:DataW.TrodAll enc Tryz.prog W 0 (fun _=>true) true Tryz.f4.params.toList args.toList ds p:=hA0
 have hplt:=hA.lt
 rw[Tryz.params4] at hA hval
 obtain⟨v0,v1,d0,d1,p0,p1,hargs,rfl,rfl,h0,h1⟩:=trodAll_two hA
 subst hargs
 obtain⟨rfl,rfl⟩:=trodVars_none hV
 obtain⟨a0,s0,u0,r0⟩:=sl_arg Tryz.underlying22 (rEvs W) (hval 0 22 v0 rfl rfl) h0
 obtain⟨l0,hl0,he0,ha0⟩:=s0
 obtain⟨rfl⟩:a0=zf 5 encEv l0:=by simpa using ha0
 obtain⟨z1,rfl,e11,e21,hwf1⟩:=ChangeMaps.open_string Tryz.underlying9 (hval 1 9 v1 rfl rfl) h1
 clear hA0 hval0
 have key:=znI (0,0) [zf 5 encEv l0,.str z1.data.toList] W (fun _=>False) #[v0,.string z1] (fun _ h=>h.elim) (zjQ hL)
  (fun a ha=>by
   simp only[List.mem_cons,List.not_mem_nil,or_false] at ha
   rcases ha with rfl | rfl
   ·exact u0
   ·exact .str _)
  ⟨rfl,fun j v hv=>by
   match j,hv with
   | 0,hv=>cases hv;exact r0
   | 1,hv=>cases hv;exact str_of _
   | j+2,hv=>simp at hv⟩
  ⟨l0,z1.data.toList,rfl,⟨hl0,fun x hx=>(he0 x hx).len⟩,Nat.le_trans (by simpa using hwf1) (show maxLen≤9223372036854775807 by decide)⟩
 refine key.mono fun e W' ⟨rv,B,he,hst,_,hr⟩=>?_
 have hr:R _ (.bool true) rv:=hr
 obtain rfl:=hr.bool_inv
 have hno:∀ b,¬ (yN W fun _=>False).owned b:=fun b ⟨l,o,c,h,_⟩=>by cases h
 have hb:Below W.heap.size W W':=⟨hst.os,hst.tape,hst.output,hst.size,fun k hk=>hst.keep k hk (hno k)⟩
 have lt0:∀ x∈p0,x.block < W.heap.size:=fun x hx=>hplt x (by simp[hx])
 have lt1:∀ x∈p1,x.block < W.heap.size:=fun x hx=>hplt x (by simp[hx])
 refine⟨_,he,[d0,d1],[],_,[],p0++p1,[],hW',?_,?_,?_,hb.frame _,fun h=>by cases h⟩
 ·exact trodAll_mk1 (shut_bool Tryz.underlying4 true)
 ·exact trodAll_mk2 (hb.trod zm8 read22 row22 h0 lt0) (hb.trod zm8 read9 row9 h1 lt1)
 ·exact rfl
theorem e_place:(Rows.officeNumbersRow.inPlace == Tryz.checked.prog.inPlace 4)=true:=by kernel_rfl
theorem e_unf:(Rows.officeNumbersRow.unfollowed == Tryz.checked.prog.unfollowed 4)=true:=by kernel_rfl
theorem e_rec:(Rows.officeNumbersRow.recurses == Tryz.checked.prog.recurses 4)=true:=by kernel_rfl
theorem e_named:(Rows.officeNumbersRow.named == Tryz.checked.prog.varsNamed 4)=true:=by kernel_rfl
theorem e_lift:(Rows.officeNumbersRow.lifted == Tryz.checked.prog.liftsFinal)=true:=by kernel_rfl
theorem e_make:(Tryz.checked.prog.make == some Rows.officeNumbersRow.make)=true:=by kernel_rfl
theorem e_keys:(Rows.officeNumbersRow.plainKeys == Tryz.checked.prog.plainKeys)=true:=by kernel_rfl
theorem e_goes:false=Rows.officeNumbersRow.goesBy Tryz.checked.prog:=by kernel_rfl
theorem e_wf:Rows.officeNumbersRow.wfByText (OpenSpec.ofChange Rows.officeNumbersSpec)=true:=by kernel_rfl
theorem e_func:Tryz.checked.prog.funcNamed Rows.officeNumbersRow.func=some 4:=by kernel_rfl
theorem e_wrap:Tryz.f4.isWrapper Tryz.checked.prog Rows.officeNumbersRow.wrapper Rows.officeNumbersRow.mainSum:=by
 unfold Func.isWrapper;rw[if_neg (of_decide_eq_false (by kernel_rfl))];exact⟨rfl,rfl⟩
theorem closed:joinedFacts Tryz.checked.prog 4 Tryz.f4 Rows.officeNumbersSpec Rows.officeNumbersRow=true:=by
 unfold joinedFacts
 simp only[Bool.and_eq_true,zmg,k_maps,k_enter,k_heard,e_place,e_unf,e_rec,e_named,e_lift,e_make,e_keys,and_true,true_and]
 (repeat' apply And.intro) <;> kernel_rfl
theorem said:Rows.OfficeNumbersSaid :=
 OpenClaim.holds_of_wide 4 Tryz.f4 rfl rfl rfl rfl rfl rfl rfl ⟨rfl,rfl,rfl,rfl,rfl⟩ rfl rfl rfl rfl rfl e_func Tryz.func4 closed
  (of_decide_eq_true (by kernel_rfl)) e_wrap
  (fun os started H enc _=>lifted os started H enc)
theorem card_holds:Rows.OfficeNumbersCardSaid :=
 Claim7.holds_tied_plain_at .later [] [.data,.data,.data,.data,.data,.widerDeep,.pinned] true (true, "955b595cc5385ef7a002e46dd68bcc84f6d549330109667ecef86e1e8b51a6b5") false
  said (fun _ h=>by cases h) e_wf (fun _ h=>by cases h) officeNumbers_row_tie rfl ⟨rfl,rfl⟩ k_main rfl
  (fun f fn hf hfn=>by
   obtain rfl:f=4:=Option.some.inj ((show Tryz.prog.funcNamed "flyover/flyoverlaw10.OfficeNumbers" = some 4 from e_func).symm.trans hf) |>.symm
   obtain rfl:fn=Tryz.f4:=(Option.some.inj (Tryz.func4.symm.trans hfn)).symm
   exact⟨k_looks,fun j t ht=>by
    rw[Tryz.params4] at ht
    have hm:t∈[22,9]:=by simpa using Array.mem_of_getElem? ht
    have hall:([22,9].all fun u=>!Tryz.prog.wantsStandIn u)=true:=by kernel_rfl
    exact(show Tryz.prog.wantsStandIn t=false by simpa using List.all_eq_true.1 hall t hm)⟩)
  e_goes
#print axioms card_holds
end Go.Proofs.YtkfbgillhhhdgaaGreatDoor
end
