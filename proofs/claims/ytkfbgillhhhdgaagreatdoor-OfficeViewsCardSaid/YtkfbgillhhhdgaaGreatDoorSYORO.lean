/- Part of a proof. No conditions. -/
import Derived.Test.YtkfbgillhhhdgaaGreatDoorSYORN
import Derived.Test.YtkfbgillhhhdgaaGreatDoorAW
set_option linter.unusedSimpArgs false
set_option linter.unusedVariables false
section
set_option maxRecDepth 100000
set_option maxHeartbeats 1000000
namespace Go.Fly.Tryz
open Go Off Go.Proofs.Tryz
theorem zgt:Holds prog G0 53 zdH:=by
 refine Holds.of_exC D53 func53 rfl zK (by kernel_rfl) (tab [(zm 2,zG)]) (zk ⟨za,trivial⟩) zw fun k0 rl args hpu hpre=>?_
 unfold zdH at hpre ⊢
 obtain⟨r,s,rfl,hr,hb⟩:=hpre
 simp only[zE,zV,zq,zN,zF]
 have hfl:=hr.flights
 have hfb:∀ {i:Nat},i < r.flights.length→decide (0≤(el r.flights i).heard)=decide ((el r.flights i).heard≠-1):=fun hi=>heard_nn hb (wd hi)
 have hmt:r.matched s=r.flights.filter fun f=>decide (f.heard≠-1) && decide (f.type=s):=rfl
 rw[hmt]
 generalize hq:(fun f:Fl=>decide (f.heard≠-1) && decide (f.type=s))=q
 have hqv:∀ f:Fl,q f=(decide (f.heard≠-1) && decide (f.type=s)):=fun f=>by rw[← hq]
 have hgo:∀ i,((r.flights.take i).filter q).length≤i:=fun i=>Nat.le_trans (List.length_filter_le _ _) (by rw[List.length_take];omega)
 have hsb:∀ i,-(((r.flights.take i).filter q).length:Int)≤zaX ((r.flights.take i).filter q)∧zaX ((r.flights.take i).filter q)≤1000000000 * ((r.flights.take i).filter q).length:=fun i=>by
  have:=zgd (l:=(r.flights.take i).filter q) (fun f hf=>hb f (List.mem_of_mem_take (List.mem_filter.1 hf).1)) (Nat.le_refl _)
  rwa [zhq] at this
 simp only[f53]
 rw[zb (Nat.le_of_ble_eq_true rfl)]
 simp(maxSteps:=4000000) only[go_sem,↓zj,zt,zf,zM]
 refine zB.loopF (β:=Nat) [(6,42)] (fun i=>[(6,.int .i64 ((r.flights.take i).filter q).length),(7,.int .i64 (zaX ((r.flights.take i).filter q))),(8,.int .i64 i)]) (fun _=>fun _=>none) (fun i=>i≤r.flights.length) (fun i=>r.flights.length - i) 0 (Nat.zero_le _) ?_ zy.none ?_
 ·simp(maxSteps:=400000) only[go_sem,↓zj]
  exact⟨rfl,rfl⟩
 ·intro ck i hck hi
  have hi:i≤r.flights.length:=hi
  have h1:=hgo i
  have h2:=hsb i
  generalize hq0:exC _ _ _ _ _=gg
  by_cases hlt:i < r.flights.length
  ·have hd:decide ((i:Int) < (r.flights.length:Int))=true:=decide_eq_true (by omega)
   have hx:=hb _ (wd hlt)
   have hfb:=hfb hlt
   rw[← hq0]
   clear hq0
   simp(maxSteps:=400000) only[go_sem,↓zj,hd,zt,zf,zM]
   have hno:q (el r.flights i)=false→(((r.flights.take i).filter q).length:Int)=((r.flights.take (i+1)).filter q).length∧zaX ((r.flights.take i).filter q)=zaX ((r.flights.take (i+1)).filter q):=fun h=>by rw[qw hlt h];exact⟨rfl,rfl⟩
   refine⟨⟨by omega,by omega⟩,fun ht=>⟨⟨by omega,by omega⟩,fun hh=>?_,fun hh=>?_⟩,fun ht=>?_⟩
   ·have hqi:q (el r.flights i)=true:=by
     rw[hqv,← hfb,decide_eq_true hh,decide_eq_true ht];rfl
    refine⟨zn (by omega) (by omega),⟨by omega,by omega⟩,zn (by omega) (by omega),zn (by omega) (by omega),i+1,hlt,by omega,⟨?_,?_,by rw[Int.natCast_add];rfl⟩,zy.none⟩
    ·rw[yw hlt hqi,List.length_append];rfl
    ·rw[yw hlt hqi]
     unfold zaX
     rw[List.foldl_append]
     rfl
   ·have hqi:q (el r.flights i)=false:=by rw[hqv,← hfb,decide_eq_false hh];rfl
    obtain⟨n1,n2⟩:=hno hqi
    exact⟨zn (by omega) (by omega),by omega,i+1,hlt,by omega,⟨by rw[n1],by rw[n2],by rw[Int.natCast_add];rfl⟩,zy.none⟩
   ·have hqi:q (el r.flights i)=false:=by rw[hqv,decide_eq_false ht,Bool.and_false]
    obtain⟨n1,n2⟩:=hno hqi
    exact⟨zn (by omega) (by omega),by omega,i+1,hlt,by omega,⟨by rw[n1],by rw[n2],by rw[Int.natCast_add];rfl⟩,zy.none⟩
  ·have hd:decide ((i:Int) < (r.flights.length:Int))=false:=decide_eq_false (by omega)
   obtain rfl:i=r.flights.length:=by omega
   rw[← hq0]
   clear hq0
   simp(maxSteps:=400000) only[go_sem,↓zj,hd,List.take_length]
   exact zo.of_eq rfl
theorem zl5:Holds prog G0 34 zdC:=by
 refine Holds.of_exC D34 func34 rfl zK (by kernel_rfl) (tab []) (zk trivial) zw fun k0 rl args hpu hpre=>?_
 unfold zdC at hpre ⊢
 obtain⟨l,rfl,hl⟩:=hpre
 simp only[zE,km]
 simp only[f34]
 rw[zb (Nat.le_of_ble_eq_true rfl)]
 simp(maxSteps:=4000000) only[go_sem,↓zj,zf,wS]
 refine zB.loopF (β:=Nat) [(3,17)] (fun i=>[(3,.int .i64 (sumN l i)),(4,.int .i64 i)]) (fun _=>fun _=>none) (fun i=>i≤l.length) (fun i=>l.length - i) 0 (Nat.zero_le _) ?_ zy.none ?_
 ·simp(maxSteps:=400000) only[go_sem,↓zj]
  try exact rfl
 ·intro ck i hck hi
  have hi:i≤l.length:=hi
  have hsb:=zkv hl hi
  have h64:=hl.1
  generalize hq0:exC _ _ _ _ _=gg
  by_cases hlt:i < l.length
  ·have hd:decide ((i:Int) < (l.length:Int))=true:=decide_eq_true (by omega)
   have hx:=hl.2 _ (wd hlt)
   rw[← hq0]
   clear hq0
   simp(maxSteps:=400000) only[go_sem,↓zj,hd,zf,wS]
   exact⟨⟨by omega,by omega⟩,zn (by omega) (by omega),zn (by omega) (by omega),by omega,i+1,hlt,by omega,⟨by rw[zdn hlt],by rw[Int.natCast_add];rfl⟩,zy.none⟩
  ·have hd:decide ((i:Int) < (l.length:Int))=false:=decide_eq_false (by omega)
   obtain rfl:i=l.length:=by omega
   rw[← hq0]
   clear hq0
   simp(maxSteps:=400000) only[go_sem,↓zj,hd,zgc]
   exact zo.of_eq rfl
theorem rThr_ok:Holds prog G0 61 zdD:=by
 refine Holds.of_exC D61 func61 rfl zK (by kernel_rfl) (tab []) (zk trivial) zw fun k0 rl args hpu hpre=>?_
 unfold zdD at hpre ⊢
 obtain⟨k,rfl,hk⟩:=hpre
 simp only[zE,wv]
 have e1:(k:Int).tmod 10=((k % 10:Nat):Int):=by rw[Int.tmod_eq_emod_of_nonneg (by omega)];omega
 have e2:(k:Int).tdiv 10=((k / 10:Nat):Int):=by rw[Int.tdiv_eq_ediv_of_nonneg (by omega)];omega
 have hb:=base_bd (k:=k % 10) (by omega)
 have hrow:=base_row (k:=k % 10) (by omega)
 have hrow0:=hrow
 rw[Nat.zero_add] at hrow0
 have hmul:∀ i:Nat,i≤12→0≤vE ((k % 10:Nat):Int) * 10 ^ i∧vE ((k % 10:Nat):Int) * 10 ^ i≤79 * 1000000000000:=fun i hi=>zfj (by omega) hb.2 (by have:=pow_bd i hi;omega) (pow_bd i hi).2
 rw[thr_nat]
 generalize hq:k / 10=q at *
 simp only[f61]
 rw[zb (Nat.le_of_ble_eq_true rfl)]
 simp(maxSteps:=4000000) only[go_sem,↓zj,e1,e2,hrow,hrow0]
 refine⟨⟨by omega,by omega⟩,?_⟩
 refine zB.loopF (β:=Nat) [(4,5),(12,19)] (fun i=>[(4,.int .i64 (vE ((k % 10:Nat):Int) * 10 ^ i)),(5,.int .i64 i)]) (fun _=>fun _=>none) (fun i=>i≤q) (fun i=>q - i) 0 (Nat.zero_le _) ?_ zy.none ?_
 ·simp(maxSteps:=400000) only[go_sem,↓zj]
  rw[Int.pow_zero,Int.mul_one]
 ·intro ck i hck hi
  have hi:i≤q:=hi
  generalize hq0:exC _ _ _ _ _=gg
  by_cases hlt:i < q
  ·have hd:decide ((i:Int) < (q:Int))=true:=decide_eq_true (by omega)
   have h1:=hmul (i+1) (by omega)
   rw[Int.pow_succ,← Int.mul_assoc] at h1
   rw[← hq0]
   clear hq0
   simp(maxSteps:=400000) only[go_sem,↓zj,e2,hd]
   exact⟨zn (by omega) (by omega),zn (by omega) (by omega),zn (by omega) (by omega),by omega,i+1,hlt,by omega,⟨congrArg (V.int .i64) (by rw[Int.pow_succ,Int.mul_left_comm,Int.mul_comm 10]),by rw[Int.natCast_add];rfl⟩,zy.none⟩
  ·have hd:decide ((i:Int) < (q:Int))=false:=decide_eq_false (by omega)
   obtain rfl:i=q:=by omega
   rw[← hq0]
   clear hq0
   simp(maxSteps:=400000) only[go_sem,↓zj,e2,hd]
   exact⟨zn (by omega) (by omega),zo.of_eq rfl⟩
theorem znT:Holds prog G0 109 zbc:=by
 refine Holds.of_exC D109 func109 rfl zK (by kernel_rfl) (tab [(61,zdD)]) (zk ⟨rThr_ok,trivial⟩) zw fun k0 rl args hpu hpre=>?_
 unfold zbc at hpre ⊢
 obtain⟨e,rfl⟩:=hpre
 simp only[zE,wv]
 have hL:=zfp e
 generalize hl:levelE e=L at hL
 simp only[f109]
 rw[zb (Nat.le_of_ble_eq_true rfl)]
 simp(maxSteps:=4000000) only[go_sem,↓zj]
 refine zB.loopF (β:=Nat) [(3,13)] (fun i=>[(3,.int .i64 (min ((i:Int) - 1) L)),(4,.int .i64 i)]) (fun _=>fun _=>none) (fun i=>i≤121) (fun i=>121 - i) 0 (by omega) ?_ zy.none ?_
 ·simp(maxSteps:=400000) only[go_sem,↓zj]
  exact congrArg (V.int .i64) (show (-1:Int)=min (-1) L by omega)
 ·intro ck i hck hi
  have hi:i≤121:=hi
  generalize hq0:exC _ _ _ _ _=gg
  by_cases hlt:i≤120
  ·have hd:decide ((i:Int)≤120)=true:=decide_eq_true (by omega)
   have hiff:=lev_iff e hlt
   rw[hl] at hiff
   rw[← hq0]
   clear hq0
   simp(maxSteps:=400000) only[go_sem,↓zj,hd]
   refine⟨⟨i,rfl,hlt⟩,fun h=>?_,fun h=>?_⟩
   ·have h2:=hiff.1 h
    exact⟨zn (by omega) (by omega),i+1,by omega,by omega,⟨congrArg (V.int .i64) (by omega),by rw[Int.natCast_add];rfl⟩,zy.none⟩
   ·have h2:¬ (i:Int)≤L:=fun z=>h (hiff.2 z)
    exact⟨zn (by omega) (by omega),by omega,i+1,by omega,by omega,⟨congrArg (V.int .i64) (by omega),by rw[Int.natCast_add];rfl⟩,zy.none⟩
  ·have hd:decide ((i:Int)≤120)=false:=decide_eq_false (by omega)
   obtain rfl:i=121:=by omega
   rw[← hq0]
   clear hq0
   simp(maxSteps:=400000) only[go_sem,↓zj,hd]
   exact zo.of_eq (by rw[show min (((121:Nat):Int) - 1) L=L by omega])
theorem rFlew_ok:Holds prog G0 232 zbd:=by
 refine Holds.of_exC D232 func232 rfl zK (by kernel_rfl) (tab [(zm 2,zG)]) (zk ⟨za,trivial⟩) zw fun k0 rl args hpu hpre=>?_
 unfold zbd at hpre ⊢
 obtain⟨r,d,rfl,hr⟩:=hpre
 simp only[zE,zV,zq,zN,wv]
 have hfl:=hr.flights
 simp only[f232]
 rw[zb (Nat.le_of_ble_eq_true rfl)]
 simp(maxSteps:=4000000) only[go_sem,↓zj,zt,zf,zM]
 refine zB.loopF (β:=Nat) [(4,20)] (fun i=>[(5,.int .i64 i)]) (fun _=>fun _=>none) (fun i=>i≤r.flights.length∧∀ j,j < i→decide ((el r.flights j).day=d)=false) (fun i=>r.flights.length - i) 0 ⟨Nat.zero_le _,fun j hj=>by omega⟩ ?_ zy.none ?_
 ·simp(maxSteps:=400000) only[go_sem,↓zj]
  try exact rfl
 ·intro ck i hck hI
  obtain⟨hi,hb⟩:=hI
  generalize hq0:exC _ _ _ _ _=gg
  by_cases hlt:i < r.flights.length
  ·have hd:decide ((i:Int) < (r.flights.length:Int))=true:=decide_eq_true (by omega)
   rw[← hq0]
   clear hq0
   simp(maxSteps:=400000) only[go_sem,↓zj,hd,zt,zf,zM]
   refine⟨⟨by omega,by omega⟩,fun h=>?_,fun h=>⟨zn (by omega) (by omega),i+1,⟨hlt,fun j hj=>?_⟩,by omega,rfl,zy.none⟩⟩
   ·exact zo.of_eq (by unfold Reg.flies;rw[zbo hlt hb (decide_eq_true h)])
   ·by_cases e:j=i
    ·subst e;exact h
    ·exact of_decide_eq_false (hb j (by omega))
  ·have hd:decide ((i:Int) < (r.flights.length:Int))=false:=decide_eq_false (by omega)
   obtain rfl:i=r.flights.length:=by omega
   rw[← hq0]
   clear hq0
   simp(maxSteps:=400000) only[go_sem,↓zj,hd]
   exact zo.of_eq (by unfold Reg.flies;rw[zbp hb])
theorem zgs:Holds prog G0 119 zdG:=by
 refine Holds.of_exC D119 func119 rfl zK (by kernel_rfl) (tab [(zm 2,zG)]) (zk ⟨za,trivial⟩) zw fun k0 rl args hpu hpre=>?_
 unfold zdG at hpre ⊢
 obtain⟨r,s,rfl,hr⟩:=hpre
 simp only[zE,zV,zq,zN,zF]
 have hfl:=hr.offers
 simp only[f119]
 rw[zb (Nat.le_of_ble_eq_true rfl)]
 simp(maxSteps:=4000000) only[go_sem,↓zj,zt,zf,zX]
 refine zB.loopF (β:=Nat) [(4,20)] (fun i=>[(5,.int .i64 i)]) (fun _=>fun _=>none) (fun i=>i≤r.offers.length∧∀ j,j < i→decide ((el r.offers j).house=s)=false) (fun i=>r.offers.length - i) 0 ⟨Nat.zero_le _,fun j hj=>by omega⟩ ?_ zy.none ?_
 ·simp(maxSteps:=400000) only[go_sem,↓zj]
  try exact rfl
 ·intro ck i hck hI
  obtain⟨hi,hb⟩:=hI
  generalize hq0:exC _ _ _ _ _=gg
  by_cases hlt:i < r.offers.length
  ·have hd:decide ((i:Int) < (r.offers.length:Int))=true:=decide_eq_true (by omega)
   rw[← hq0]
   clear hq0
   simp(maxSteps:=400000) only[go_sem,↓zj,hd,zt,zf,zX]
   refine⟨⟨by omega,by omega⟩,fun h=>?_,fun h=>⟨zn (by omega) (by omega),i+1,⟨hlt,fun j hj=>?_⟩,by omega,rfl,zy.none⟩⟩
   ·exact zo.of_eq (by unfold Reg.hasOffer;rw[zbo hlt hb (decide_eq_true h)])
   ·by_cases e:j=i
    ·subst e;exact h
    ·exact of_decide_eq_false (hb j (by omega))
  ·have hd:decide ((i:Int) < (r.offers.length:Int))=false:=decide_eq_false (by omega)
   obtain rfl:i=r.offers.length:=by omega
   rw[← hq0]
   clear hq0
   simp(maxSteps:=400000) only[go_sem,↓zj,hd]
   exact zo.of_eq (by unfold Reg.hasOffer;rw[zbp hb])
theorem zo4:Holds prog G0 118 zdF:=by
 refine Holds.of_exC D118 func118 rfl zK (by kernel_rfl) (tab [(zm 2,zG)]) (zk ⟨za,trivial⟩) zw fun k0 rl args hpu hpre=>?_
 unfold zdF at hpre ⊢
 obtain⟨r,i,rfl,hr,hla⟩:=hpre
 simp only[zE,zV,zq,zN,wv]
 have hm:=hr.maps
 have hti:((i:Int)).toNat=i:=by omega
 by_cases h0:r.maps.length=0
 ·have d0:decide ((r.maps.length:Int)=0)=true:=decide_eq_true (by omega)
  simp only[f118]
  rw[zb (Nat.le_of_ble_eq_true rfl)]
  simp(maxSteps:=4000000) only[go_sem,↓zj,zt,zf,wq,zh,d0,hti]
  have hp0:r.pubAt i=none:=by unfold Reg.pubAt;rw[List.eq_nil_of_length_eq_zero h0];rfl
  exact⟨(zcP r.maps).2 trivial,zo.of_eq (by rw[hp0];rfl)⟩
 ·have d0:decide ((r.maps.length:Int)=0)=false:=decide_eq_false (by omega)
  have dn:((r.maps.length:Int) - 1).toNat=r.maps.length - 1:=by omega
  obtain⟨m,hmm⟩:∃ m,el r.maps (r.maps.length - 1)=m:=⟨_,rfl⟩
  have hlm:m.levels.length≤1000000:=hla m (by rw[zbX (by omega),hmm])
  have hls:r.pubAt i=m.levels[i]?:=by unfold Reg.pubAt;rw[zbX (by omega),hmm]
  by_cases h1:m.levels.length≤i
  ·have d1:decide ((m.levels.length:Int)≤(i:Int))=true:=decide_eq_true (by omega)
   simp only[f118]
   rw[zb (Nat.le_of_ble_eq_true rfl)]
   simp(maxSteps:=4000000) only[go_sem,↓zj,zt,zf,wq,zh,d0,dn,hmm,d1,hti]
   exact⟨(zcP r.maps).2 trivial,zn (by omega) (by omega),⟨by omega,by omega⟩,zo.of_eq (by rw[hls,List.getElem?_eq_none h1];rfl)⟩
  ·have d1:decide ((m.levels.length:Int)≤(i:Int))=false:=decide_eq_false (by omega)
   simp only[f118]
   rw[zb (Nat.le_of_ble_eq_true rfl)]
   simp(maxSteps:=4000000) only[go_sem,↓zj,zt,zf,wq,zh,d0,dn,hmm,d1,hti]
   exact⟨(zcP r.maps).2 trivial,zn (by omega) (by omega),⟨by omega,by omega⟩,zn (by omega) (by omega),⟨by omega,by omega⟩,⟨by omega,by omega⟩,zo.of_eq (by rw[hls,List.getElem?_eq_getElem (by omega),← yp _ (by omega)];rfl)⟩
theorem zlb:Holds prog G0 192 flrPC:=by
 refine Holds.of_exC D192 func192 rfl zK (by kernel_rfl) (tab []) (zk trivial) zw fun k0 rl args hpu hpre=>?_
 unfold flrPC at hpre ⊢
 obtain⟨a,b,rfl,h0,h1,hb0,hb1⟩:=hpre
 simp only[zE,zV,wv]
 have e1:a.tdiv b=a / b:=Int.tdiv_eq_ediv_of_nonneg h0
 have e2:0≤a / b:=Int.ediv_nonneg h0 (by omega)
 have e3:a / b * b≤a:=Int.ediv_mul_le a (by omega)
 have e4:a / b≤a:=Int.ediv_le_self b h0
 have e5:0≤a / b * b:=Int.mul_nonneg e2 (by omega)
 simp only[f192]
 rw[zb (Nat.le_of_ble_eq_true rfl)]
 simp(maxSteps:=4000000) only[go_sem,↓zj,e1]
 exact⟨⟨by omega,zn (by omega) (by omega)⟩,zn (by omega) (by omega),fun h=>absurd h (by omega),fun h=>zo.of_eq rfl⟩
theorem zjm:Holds prog G0 108 zhI:=by
 refine Holds.of_exC D108 func108 rfl zK (by kernel_rfl) (tab [(50,yd 116),(192,flrPC),(zm 3,zG),(zm 4,zG),(zm 5,zG)]) (zk ⟨zak,zlb,za,za,za,trivial⟩) zw fun k0 rl args hpu hpre=>?_
 unfold zhI at hpre ⊢
 obtain⟨r,f,h,rfl,hco,hf⟩:=hpre
 simp only[zE,zV,zb3,zq,zN,zd9,zcf]
 obtain⟨hr,ht,hfk,h64,hsh⟩:=id hco
 have hty:=hfk f hf
 have hix:=yz hty
 have hpl:zO (r.namesOf 116) f.type < r.types.length:=by have:=yG hty;rwa [show (r.namesOf 116).length=r.types.length from List.length_map _] at this
 obtain⟨b1,b2⟩:=ht _ (zdm hty)
 obtain⟨m1,m2,m3⟩:=zdQ b1 b2 hsh
 have htl:zf 3 wg r.types=.sl r.types.length 3 fun i=>wg (el r.types i):=rfl
 have hel:el r.types (zO (r.namesOf 116) f.type)=r.typ f.type:=rfl
 simp only[f108]
 rw[zb (Nat.le_of_ble_eq_true rfl)]
 simp(maxSteps:=4000000) only[go_sem,↓zj,zM,zZ,wg,htl,hix,hel]
 exact⟨⟨r,_,rfl,hr⟩,⟨by omega,by omega⟩,zn (by omega) (by omega),zn (by omega) (by omega),⟨_,_,rfl,by omega,by omega,by omega,by omega⟩,zo.of_eq rfl⟩
theorem zlc:Holds prog G0 31 kI:=by
 refine Holds.of_exC D31 func31 rfl zK (by kernel_rfl) (tab [(108,zhI),(zm 2,zG)]) (zk ⟨zjm,za,trivial⟩) zw fun k0 rl args hpu hpre=>?_
 unfold kI at hpre ⊢
 obtain⟨r,i0,rfl,hi0,hco⟩:=hpre
 simp only[zE,zV,zq,zN,wv]
 have hti:((i0:Int)).toNat=i0:=by omega
 rw[hti]
 have h64:=hco.many
 obtain⟨h,hh⟩:∃ h,el r.houses i0=h:=⟨_,rfl⟩
 rw[hh] at hco ⊢
 have hfl:zf 5 zM r.flights=.sl r.flights.length 5 fun i=>zM (el r.flights i):=rfl
 have hhl:zf 2 zZ r.houses=.sl r.houses.length 2 fun i=>zZ (el r.houses i):=rfl
 have hrl:=hco.rl.houses
 simp only[f31]
 rw[zb (Nat.le_of_ble_eq_true rfl)]
 simp(maxSteps:=4000000) only[go_sem,↓zj,hfl,hhl]
 refine zB.ents (wu.nilArr (d:=5) (l:=(4,1000)) 2 (fun _=>[]) rfl rfl rfl) ?_
 simp(maxSteps:=400000) only[go_sem,↓zj]
 refine zB.loopF (β:=Nat) [(5,35)] (fun i=>[(5,.msl (4,1000) 0 i),(6,.int .i64 i)]) (fun i=>updH (fun _=>none) (4,1000) (.arr i 2 (fun i=>wS (el (r.chain h.share) i)))) (fun i=>i≤r.flights.length) (fun i=>r.flights.length - i) 0 (Nat.zero_le _) ?_ (zy.arr1 (zd _ _ _) rfl rfl fun i hi=>by omega) ?_
 ·simp(maxSteps:=400000) only[go_sem,↓zj]
  try exact⟨rfl,rfl⟩
 ·intro ck i hck hi
  have hi:i≤r.flights.length:=hi
  generalize hq0:exC _ _ _ _ _=gg
  by_cases hlt:i < r.flights.length
  ·have hd:decide ((i:Int) < (r.flights.length:Int))=true:=decide_eq_true (by omega)
   have hmem:=wd hlt
   have hrow:wS (el (r.chain h.share) i)=[.str (el r.flights i).name,.int .i64 (r.energyAt h.share (el r.flights i))]:=by
    unfold Reg.chain;rw[vD (fun f:Fl=>(f.name,r.energyAt h.share f)) r.flights hlt];rfl
   rw[← hq0]
   clear hq0
   simp(maxSteps:=400000) only[go_sem,↓zj,hd,hfl,hhl,zM,zZ,hti,hh]
   refine⟨⟨by omega,by omega⟩,⟨by omega,by omega⟩,⟨by omega,by omega⟩,⟨r,el r.flights i,h,rfl,hco,hmem⟩,⟨by omega,by omega,wG rfl (hrow ▸ vM _)⟩,zn (by omega) (by omega),by omega,i+1,hlt,by omega,⟨rfl,by rw[Int.natCast_add];rfl⟩,zy.arr1 (zd _ _ _) rfl rfl fun j hj=>snoc (f:=fun k=>wS (el (r.chain h.share) k)) rfl hrow hj⟩
  ·have hd:decide ((i:Int) < (r.flights.length:Int))=false:=decide_eq_false (by omega)
   obtain rfl:i=r.flights.length:=by omega
   rw[← hq0]
   clear hq0
   simp(maxSteps:=400000) only[go_sem,↓zj,hd,hfl,Nat.zero_add]
   have hlen:r.flights.length=(r.chain h.share).length:=by unfold Reg.chain;rw[List.length_map]
   rw[hlen]
   exact zo.sl fun k hk=>ww (vM _).pu
theorem znP:Holds prog G0 33 zdI:=by
 refine Holds.of_exC D33 func33 rfl zK (by kernel_rfl) (tab [(31,kI),(34,zdC),(109,zbc),(zm 2,zG)]) (zk ⟨zlc,zl5,znT,za,trivial⟩) zw fun k0 rl args hpu hpre=>?_
 unfold zdI at hpre ⊢
 obtain⟨r,i,rfl,hi,hco⟩:=hpre
 simp only[zE,zV,zq,zN,wv]
 have hti:((i:Int)).toNat=i:=by omega
 simp only[f33]
 rw[zb (Nat.le_of_ble_eq_true rfl)]
 simp(maxSteps:=4000000) only[go_sem,↓zj,hti]
 exact⟨⟨r,i,rfl,hi,hco⟩,⟨_,rfl,zil hco⟩,⟨_,rfl⟩,zo.of_eq rfl⟩
theorem zl8:Holds prog G0 184 kF:=by
 refine Holds.of_exC D184 func184 rfl zK (by kernel_rfl) (tab [(30,yf),(230,zi9),(231,kG),(zm 2,zG),(zm 3,zG)]) (zk ⟨jI,zl7,zla,za,za,trivial⟩) zw fun k0 rl args hpu hpre=>?_
 unfold kF at hpre ⊢
 obtain⟨r,e,k,rfl,hr,hk,hu,hnl⟩:=hpre
 simp only[zE,zV,zq,zN,wH]
 have hs:zbT e.kind=j8 k:=by unfold zbT;rw[hk]
 have hkd:kdOf e=k:=by unfold kdOf;rw[hk];rfl
 rw[hkd,← zcy]
 have hLl:(j8 k).length=e.names.length:=by rw[hnl];cases k <;> rfl
 have hLp:∀ i,i < (j8 k).length→0 < (el (j8 k) i).length:=by cases k <;> decide
 have hL2:(j8 k).length≤2:=by cases k <;> decide
 generalize j8 k=L at hs hLl hLp hL2 ⊢
 have hgd:∀ w:Str,decide ((((w[0]?).getD 0).toNat:Int)=43)=zeY w:=fun w=>by unfold zeY;rw[List.getD_eq_getElem?_getD]
 have hth:∀ w s:Str,decide (s∈r.namesOf (zg9 w))=zbs r w s:=fun w s=>rfl
 simp only[f184]
 rw[zb (Nat.le_of_ble_eq_true rfl)]
 simp(maxSteps:=4000000) only[go_sem,↓zj,↓reduceIte,encEv,zg,hs]
 refine⟨⟨_,rfl⟩,?_⟩
 refine zB.loopF (β:=Nat) [(4,4),(6,6),(10,35)] (fun i=>[(6,.int .i64 i)]) (fun _=>fun _=>none) (fun i=>i≤L.length∧∀ j,j < i→badW r e L j=false) (fun i=>L.length - i) 0 ⟨Nat.zero_le _,fun j hj=>absurd hj (Nat.not_lt_zero _)⟩ ?_ zy.none ?_
 ·simp(maxSteps:=400000) only[go_sem,↓zj]
  try exact rfl
 ·intro ck i hck hI
  obtain⟨hi,hf⟩:=hI
  have hi:i≤L.length:=hi
  generalize hq0:exC _ _ _ _ _=gg
  by_cases hlt:i < L.length
  ·have hd:decide ((i:Int) < (L.length:Int))=true:=decide_eq_true (by omega)
   have hp:=hLp i hlt
   cases hpl:zeY (el L i) with
   | true =>
     have hb:badW r e L i=false:=by unfold badW;rw[hpl];rfl
     rw[← hq0]
     clear hq0
     simp(maxSteps:=400000) only[go_sem,↓zj,↓reduceIte,hd,hgd,hpl]
     refine⟨⟨by omega,by omega⟩,by omega,zn (by omega) (by omega),by omega,i+1,⟨hlt,fun j hj=>?_⟩,by omega,rfl,zy.none⟩
     by_cases e2:j=i
     ·subst e2;exact hb
     ·exact hf j (by omega)
   | false =>
     cases ht:zbs r (el L i) (el e.names i) with
     | true =>
       have hb:badW r e L i=false:=by unfold badW;rw[hpl,ht];rfl
       rw[← hq0]
       clear hq0
       simp(maxSteps:=400000) only[go_sem,↓zj,↓reduceIte,hd,hgd,hpl,hth,ht]
       refine⟨⟨by omega,by omega⟩,by omega,⟨by omega,by omega⟩,⟨by omega,by omega⟩,⟨r,_,_,rfl,hr⟩,zn (by omega) (by omega),by omega,i+1,⟨hlt,fun j hj=>?_⟩,by omega,rfl,zy.none⟩
       by_cases e2:j=i
       ·subst e2;exact hb
       ·exact hf j (by omega)
     | false =>
       have hb:badW r e L i=true:=by unfold badW;rw[hpl,ht];rfl
       have hany:jA r e L=10:=by
        unfold jA
        rw[if_pos (List.any_eq_true.2 ⟨i,List.mem_range.2 hlt,hb⟩)]
       rw[← hq0]
       clear hq0
       simp(maxSteps:=400000) only[go_sem,↓zj,↓reduceIte,hd,hgd,hpl,hth,ht]
       rw[hany]
       exact⟨⟨by omega,by omega⟩,by omega,⟨by omega,by omega⟩,⟨by omega,by omega⟩,⟨r,_,_,rfl,hr⟩,zo.refl _⟩
  ·have hd:decide ((i:Int) < (L.length:Int))=false:=decide_eq_false (by omega)
   obtain rfl:i=L.length:=by omega
   have hany:jA r e L=err ((decide (0 < L.length) && zeY (el L 0)) && zbs r (el L 0) (el e.names 0)) 9:=by
    unfold jA
    rw[if_neg]
    intro q
    obtain⟨j,hj,hb⟩:=List.any_eq_true.1 q
    rw[hf j (List.mem_range.1 hj)] at hb
    cases hb
   by_cases h0:0 < L.length
   ·have d0:decide ((0:Int) < (L.length:Int))=true:=decide_eq_true (by omega)
    have d0':decide (0 < L.length)=true:=decide_eq_true h0
    have hp:=hLp 0 h0
    rw[← hq0]
    clear hq0
    rw[hany,d0']
    cases hpl:zeY (el L 0) <;> cases ht:zbs r (el L 0) (el e.names 0)
    all_goals
     simp(maxSteps:=400000) only[go_sem,↓zj,↓reduceIte,hd,d0,hgd,hpl,hth,ht]
     first
      | exact⟨by omega,by omega,zo.refl _⟩
      | exact⟨by omega,by omega,by omega,by omega,⟨r,_,_,rfl,hr⟩,zo.refl _⟩
   ·have d0:decide ((0:Int) < (L.length:Int))=false:=decide_eq_false (by omega)
    have d0':decide (0 < L.length)=false:=decide_eq_false h0
    rw[← hq0]
    clear hq0
    rw[hany,d0']
    simp(maxSteps:=400000) only[go_sem,↓zj,↓reduceIte,hd,d0]
    exact zo.of_eq rfl
end Go.Fly.Tryz
end
