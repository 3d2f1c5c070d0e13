/- Part of a proof. No conditions. -/
import Derived.Test.YtkfbgillhhhdgaaGreatDoorSYOR0
import Derived.Test.YtkfbgillhhhdgaaGreatDoorAS
set_option linter.unusedSimpArgs false
set_option linter.unusedVariables false
section
set_option maxRecDepth 100000
set_option maxHeartbeats 1000000
namespace Go.Fly.Tryz
open Go Off Go.Proofs.Tryz
theorem zjz:Holds prog G0 25 zej:=by
 refine Holds.of_exC D25 func25 rfl zK (by kernel_rfl) (tab [(98,askC),(100,zck),(101,vu 104 zZ Reg.house)]) (zk ⟨vP,kT,kS,trivial⟩) zw fun k0 rl args hpu hpre=>?_
 unfold zej at hpre ⊢
 obtain⟨l,s,rfl,hl,hE⟩:=hpre
 simp only[zE,zV,zF,wF]
 have hg:=wN l
 by_cases w:jC l 104 s=0
 ·have dw:decide (jC l 104 s=0)=true:=decide_eq_true w
  obtain⟨w1,w2⟩:=qO w
  have hco:=hg.ok.chain _ (za1 w2)
  simp only[f25]
  rw[zb (Nat.le_of_ble_eq_true rfl)]
  simp(maxSteps:=4000000) only[go_sem,↓zj,dw,Bool.not_true,zz,zZ]
  refine⟨⟨l,_,s,rfl,hl,hE⟩,⟨_,s,rfl,hg.rl,w2⟩,⟨_,_,rfl,hco⟩,zo.of_eq ?_⟩
  unfold zfU
  rw[if_neg (fun q=>q w)]
 ·have dw:decide (jC l 104 s=0)=false:=decide_eq_false w
  simp only[f25]
  rw[zb (Nat.le_of_ble_eq_true rfl)]
  simp(maxSteps:=4000000) only[go_sem,↓zj,dw,Bool.not_false,zz]
  refine⟨⟨l,_,s,rfl,hl,hE⟩,?_⟩
  unfold zfU
  rw[if_pos w]
  exact zo.tup ⟨zo.nils _ _,zo.refl _,trivial⟩
theorem zjy:Holds prog G0 37 zei:=by
 refine Holds.of_exC D37 func37 rfl zK (by kernel_rfl) (tab [(86,yf),(98,askC),(99,zar),(100,zck),(101,vu 104 zZ Reg.house)]) (zk ⟨wx,vP,zaq,kT,kS,trivial⟩) zw fun k0 rl args hpu hpre=>?_
 unfold zei at hpre ⊢
 obtain⟨l,s,c,lv,rfl,hl,hE,hc⟩:=hpre
 simp only[zE,zV,zb3,znr,zF,wv,wF,km]
 have hg:=wN l
 by_cases w:jC l 104 s=0
 ·have dw:decide (jC l 104 s=0)=true:=decide_eq_true w
  obtain⟨w1,w2⟩:=qO w
  have hco:=hg.ok.chain _ (za1 w2)
  have hits:=zil hco
  have hcr:∃ cr,cr=(replayed levelE l).1.now.chain ((replayed levelE l).1.now.house s).share:=⟨_,rfl⟩
  obtain⟨cr,hcr⟩:=hcr
  rw[← hcr] at hits
  have h64:=hits.1
  simp only[f37]
  rw[zb (Nat.le_of_ble_eq_true rfl)]
  simp(maxSteps:=4000000) only[go_sem,↓zj,dw,Bool.not_true,zz,zZ,zf,wS,← hcr]
  refine⟨⟨l,_,s,rfl,hl,hE⟩,⟨_,s,rfl,hg.rl,w2⟩,⟨_,_,rfl,hco⟩,?_⟩
  have hmx:max (c.length:Int) (cr.length:Int)=((max c.length cr.length:Nat):Int):=by omega
  have hck:jc l s c lv=match zaW c cr 0 (max c.length cr.length) with
   | some i=>((i:Int),19)
   | none=>((cr.length:Int),err (!decide (levelE (zbu cr)=lv)) 24):=by
   unfold jc
   rw[if_neg (fun q=>q w),hcr]
   rfl
  obtain⟨N,hN⟩:∃ N,N=max c.length cr.length:=⟨_,rfl⟩
  rw[← hN] at hck hmx
  refine zB.loopF (β:=Nat) [(8,9),(13,13),(41,66)] (fun i=>[(41,.int .i64 i)]) (fun _=>fun _=>none) (fun i=>i≤N∧zaW c cr 0 N=zaW c cr i (N - i)) (fun i=>N - i) 0 ⟨Nat.zero_le _,rfl⟩ ?_ zy.none ?_
  ·simp(maxSteps:=4000000) only[go_sem,↓zj,hmx]
   try exact rfl
  ·intro ck i hck0 hI
   obtain⟨hi,hdf⟩:=hI
   generalize hq0:exC _ _ _ _ _=gg
   by_cases hlt:i < N
   ·have hd:decide ((i:Int) < (N:Int))=true:=by simp;omega
    rw[zn6 hlt] at hdf
    by_cases q1:c.length≤i
    ·have d1:decide ((c.length:Int)≤(i:Int))=true:=decide_eq_true (by omega)
     rw[← hq0]
     clear hq0
     simp(maxSteps:=4000000) only[go_sem,↓zj,hmx,hd,d1]
     rw[if_pos (.inl q1)] at hdf
     exact zo.of_eq (by rw[hck,hdf])
    ·have d1:decide ((c.length:Int)≤(i:Int))=false:=decide_eq_false (by omega)
     by_cases q2:cr.length≤i
     ·have d2:decide ((cr.length:Int)≤(i:Int))=true:=decide_eq_true (by omega)
      rw[← hq0]
      clear hq0
      simp(maxSteps:=4000000) only[go_sem,↓zj,hmx,hd,d1,d2]
      rw[if_pos (.inr (.inl q2))] at hdf
      exact zo.of_eq (by rw[hck,hdf])
     ·have d2:decide ((cr.length:Int)≤(i:Int))=false:=decide_eq_false (by omega)
      rw[← hq0]
      clear hq0
      simp(maxSteps:=4000000) only[go_sem,↓zj,hmx,hd,d1,d2]
      refine⟨⟨by omega,by omega⟩,⟨by omega,by omega⟩,fun h=>?_,fun h=>⟨zn (by omega) (by omega),by omega,i+1,⟨hlt,?_⟩,by omega,rfl,zy.none⟩⟩
      ·have hne:el c i≠el cr i:=fun e=>by rw[e] at h;simp at h
       rw[if_pos (.inr (.inr hne))] at hdf
       exact zo.of_eq (by rw[hck,hdf])
      ·have he:el c i=el cr i:=by
        simp only[Bool.not_eq_false',Bool.and_eq_true,decide_eq_true_eq] at h
        exact Prod.ext h.1 h.2
       rw[if_neg (fun q=>q.elim q1 fun q=>q.elim q2 fun q=>q he)] at hdf
       exact hdf
   ·have hd:decide ((i:Int) < (N:Int))=false:=by simp;omega
    rw[← hq0]
    clear hq0
    simp(maxSteps:=4000000) only[go_sem,↓zj,hmx,hd]
    rw[show N - i=0 by omega] at hdf
    have hdf:zaW c cr 0 N=none:=hdf
    exact⟨⟨cr,rfl,hits⟩,zo.of_eq (by rw[hck,hdf])⟩
 ·have dw:decide (jC l 104 s=0)=false:=decide_eq_false w
  simp only[f37]
  rw[zb (Nat.le_of_ble_eq_true rfl)]
  simp(maxSteps:=4000000) only[go_sem,↓zj,dw,Bool.not_false,zz]
  refine⟨⟨l,_,s,rfl,hl,hE⟩,zo.of_eq ?_⟩
  unfold jc
  rw[if_pos w]
theorem zfd:Holds prog G0 196 zfP:=by
 refine Holds.of_exC D196 func196 rfl zK (by kernel_rfl) (tab [(163,Off.zm1),(164,qr)]) (zk ⟨zi1,zlQ,trivial⟩) zw fun k0 rl args hpu hpre=>?_
 unfold zfP at hpre ⊢
 obtain⟨r,s,rfl,hr,hla,hs⟩:=hpre
 simp only[zE,zV,zr,List.getD_cons_zero,zF,zN]
 cases hL:r.isLoud s with
 | true =>
   simp only[f196]
   rw[zb (Nat.le_of_ble_eq_true rfl)]
   simp(maxSteps:=4000000) only[go_sem,↓zj,hL]
   exact⟨⟨r,s,rfl,hr,hs,hla⟩,⟨r,s,rfl,hr⟩,zo.of_eq rfl⟩
 | false =>
   simp only[f196]
   rw[zb (Nat.le_of_ble_eq_true rfl)]
   simp(maxSteps:=4000000) only[go_sem,↓zj,hL]
   exact⟨⟨r,s,rfl,hr,hs,hla⟩,zo.of_eq rfl⟩
theorem zgA:Holds prog G0 195 (zbi 196):=by
 refine Holds.of_exC D195 func195 rfl zK (by kernel_rfl) (tab [(196,zfP)]) (zk ⟨zfd,trivial⟩) zw fun k0 rl args hpu hpre=>?_
 unfold zbi at hpre ⊢
 obtain⟨l,r,rfl,hl,hr,hla,hm⟩:=hpre
 simp only[zE,zV,jZ,zN]
 have hgo:∀ (q:Str→Bool) (i:Nat),((l.take i).filter q).length≤i:=fun q i=>Nat.le_trans (List.length_filter_le _ _) (by rw[List.length_take];omega)
 generalize hq:(fun s:Str=>r.isLoud s && !r.hasOffer s)=q
 simp only[f195]
 rw[zb (Nat.le_of_ble_eq_true rfl)]
 simp(maxSteps:=4000000) only[go_sem,↓zj,zg]
 refine zB.ents (wu.nilArr (d:=5) (l:=(4,1000)) 1 (fun _=>[]) rfl rfl rfl) ?_
 simp(maxSteps:=4000000) only[go_sem,↓zj]
 refine zB.loopF (β:=Nat) [(5,5),(7,7),(10,21)] (fun i=>[(5,.msl (4,1000) 0 ((l.take i).filter q).length),(10,.int .i64 i)]) (fun i=>updH (fun _=>none) (4,1000) (.arr ((l.take i).filter q).length 1 (fun j=>[.str (el ((l.take i).filter q) j)]))) (fun i=>i≤l.length) (fun i=>l.length - i) 0 (Nat.zero_le _) ?_ (zy.arr1 (zd _ _ _) rfl rfl fun i hi=>by simp at hi) ?_
 ·simp(maxSteps:=4000000) only[go_sem,↓zj]
  try simp
 ·intro ck i hck hi
  have hgi:=hgo q i
  have hi:i≤l.length:=hi
  generalize hq0:exC _ _ _ _ _=gg
  by_cases hlt:i < l.length
  ·have hd:decide ((i:Int) < (l.length:Int))=true:=by simp;omega
   have hmi:=hm _ (wd hlt)
   rw[← hq0]
   clear hq0
   simp(maxSteps:=4000000) only[go_sem,↓zj,hd,zg]
   refine⟨⟨by omega,by omega⟩,⟨r,el l i,rfl,hr,hla,hmi⟩,fun h=>?_,fun h=>?_⟩
   ·have hqi:q (el l i)=true:=by rw[← hq];simpa using h
    have hly:((l.take i).filter q).length+1=((l.take (i+1)).filter q).length:=by rw[yw hlt hqi,List.length_append];rfl
    exact⟨⟨by omega,by omega,wG rfl yx⟩,zn (by omega) (by omega),i+1,hlt,by omega,⟨by rw[hly],rfl⟩,zy.arr1 (zd _ _ _) hly rfl fun j hj=>by rw[yw hlt hqi];exact vn (f:=fun s:Str=>[V.str s]) rfl rfl hj⟩
   ·have hqi:q (el l i)=false:=by rw[← hq];simpa using h
    have hly:=qw hlt hqi
    exact⟨zn (by omega) (by omega),i+1,hlt,by omega,⟨by rw[hly],rfl⟩,zy.arr1 (by simp[updH];exact⟨rfl,rfl⟩) (by rw[hly]) rfl fun j hj=>by rw[hly]⟩
  ·have hd:decide ((i:Int) < (l.length:Int))=false:=by simp;omega
   obtain rfl:i=l.length:=by omega
   rw[← hq0]
   clear hq0
   simp(maxSteps:=4000000) only[go_sem,↓zj,hd,Nat.zero_add,zg]
   rw[List.take_length]
   exact zo.refl _
theorem zi5:Holds prog G0 114 zfO:=by
 refine Holds.of_exC D114 func114 rfl zK (by kernel_rfl) (tab [(186,zaS),(195,zbi 196),(196,zfP),(zm 1,zG)]) (zk ⟨qo,zgA,zfd,za,trivial⟩) zw fun k0 rl args hpu hpre=>?_
 unfold zfO at hpre ⊢
 obtain⟨r,rfl,hr,hla⟩:=hpre
 simp only[zE,zr,zN]
 simp only[f114]
 rw[zb (Nat.le_of_ble_eq_true rfl)]
 simp(maxSteps:=4000000) only[go_sem,↓zj]
 exact⟨⟨r,_,rfl,hr⟩,⟨_,r,rfl,hr.names _,hr,hla,fun s hs=>hs⟩,zo.of_eq rfl⟩
theorem zlS:Holds prog G0 46 ziK:=by
 refine Holds.of_exC D46 func46 rfl zK (by kernel_rfl) (tab [(94,zgp),(114,zfO)]) (zk ⟨vq,zi5,trivial⟩) zw fun k0 rl args hpu hpre=>?_
 unfold ziK at hpre ⊢
 obtain⟨l,rfl,hl,hE⟩:=hpre
 simp only[zE,wF]
 have hg:=wN l
 by_cases w:(replayed levelE l).2.2=0
 ·have dw:decide ((replayed levelE l).2.2=0)=true:=decide_eq_true w
  simp only[f46]
  rw[zb (Nat.le_of_ble_eq_true rfl)]
  simp(maxSteps:=4000000) only[go_sem,↓zj,dw,Bool.not_true,zz]
  refine⟨⟨l,rfl,hl,hE⟩,⟨_,rfl,hg.rl,hg.last⟩,zo.of_eq ?_⟩
  unfold zmV
  rw[if_neg (fun q=>q w)]
 ·have dw:decide ((replayed levelE l).2.2=0)=false:=decide_eq_false w
  simp only[f46]
  rw[zb (Nat.le_of_ble_eq_true rfl)]
  simp(maxSteps:=4000000) only[go_sem,↓zj,dw,Bool.not_false,zz]
  refine⟨⟨l,rfl,hl,hE⟩,?_⟩
  unfold zmV
  rw[if_pos w]
  exact zo.tup ⟨zo.nils _ _,zo.refl _,trivial⟩
theorem zlB:Holds prog G0 40 zhM:=by
 refine Holds.of_exC D40 func40 rfl zK (by kernel_rfl) (tab [(84,w7),(86,yf),(98,askC),(105,yY),(110,vu 109 wq Reg.chart)]) (zk ⟨wB,wx,vP,wQ,zff,trivial⟩) zw fun k0 rl args hpu hpre=>?_
 unfold zhM at hpre ⊢
 obtain⟨l,m,s,rfl,hl,hE⟩:=hpre
 simp only[zE,zV,zb3,zF,wF]
 have hg:=wN l
 by_cases w:jC l 109 m=0
 ·have dw:decide (jC l 109 m=0)=true:=decide_eq_true w
  obtain⟨w1,w2⟩:=qO w
  simp only[f40]
  rw[zb (Nat.le_of_ble_eq_true rfl)]
  simp(maxSteps:=4000000) only[go_sem,↓zj,dw,Bool.not_true,zz,wq,zh]
  obtain⟨C,hC⟩:∃ C,C=zv [err (decide (zd5 ((replayed levelE l).1.now.namesOf 104) s < 0)) 10,err (decide ((((replayed levelE l).1.now.chart m).levels.length:Int)≤zd5 ((replayed levelE l).1.now.namesOf 104) s)) 7]:=⟨_,rfl⟩
  have hpe:zgv l m s=if C≠0 then (0,C) else (el ((replayed levelE l).1.now.chart m).levels (zd5 ((replayed levelE l).1.now.namesOf 104) s).toNat,0):=by
   unfold zgv
   rw[if_neg (fun q=>q w),hC]
  simp only[← hC]
  refine⟨⟨l,_,m,rfl,hl,hE⟩,⟨_,_,s,rfl,hg.rl⟩,⟨_,m,rfl,hg.rl,w2⟩,fun h=>zo.of_eq ?_,fun h=>⟨?_,zo.of_eq ?_⟩⟩
  ·have h:¬ C=0:=by simpa using h
   rw[hpe,if_pos h]
  ·have h:C=0:=by simpa using h
   rw[hC,wb] at h
   have q1:=(w4 (e:=10) (by decide)).1 (h _ (List.mem_cons_self ..))
   have q2:=(w4 (e:=7) (by decide)).1 (h _ (List.mem_cons_of_mem _ (List.mem_cons_self ..)))
   have q1:=of_decide_eq_false q1
   have q2:=of_decide_eq_false q2
   omega
  ·have h:C=0:=by simpa using h
   rw[hpe,if_neg (fun q=>q h)]
 ·have dw:decide (jC l 109 m=0)=false:=decide_eq_false w
  simp only[f40]
  rw[zb (Nat.le_of_ble_eq_true rfl)]
  simp(maxSteps:=4000000) only[go_sem,↓zj,dw,Bool.not_false,zz]
  refine⟨⟨l,_,m,rfl,hl,hE⟩,zo.of_eq ?_⟩
  unfold zgv
  rw[if_pos w]
theorem zfc:Holds prog G0 198 zfs:=by
 refine Holds.of_exC D198 func198 rfl zK (by kernel_rfl) (tab [(zm 2,zG)]) (zk ⟨za,trivial⟩) zw fun k0 rl args hpu hpre=>?_
 unfold zfs at hpre ⊢
 obtain⟨c,day,rfl,h0,h1⟩:=hpre
 simp only[zE,zV,zr,List.getD_cons_zero,wv]
 simp only[f198]
 rw[zb (Nat.le_of_ble_eq_true rfl)]
 simp(maxSteps:=4000000) only[go_sem,↓zj,zP]
 have e0:zm5 day c=(decide (c.day+30 < day) && (decide (c.answered=-1) || decide (c.day+30 < c.answered))):=rfl
 exact⟨zn (by omega) (by omega),fun h=>⟨fun g=>zo.of_eq (by rw[e0,decide_eq_true h,decide_eq_false g];simp),fun g=>zo.of_eq (by rw[e0,decide_eq_true h,decide_eq_true g];rfl)⟩,fun h=>zo.of_eq (by rw[e0,decide_eq_false h];rfl)⟩
theorem zfb:Holds prog G0 200 (nmC zP jl Co.name):=by
 refine Holds.of_exC D200 func200 rfl zK (by kernel_rfl) (tab [(zm 1,zG)]) (zk ⟨za,trivial⟩) zw fun k0 rl args hpu hpre=>?_
 unfold nmC at hpre ⊢
 obtain⟨t,rfl⟩:=hpre
 simp only[f200]
 rw[zb (Nat.le_of_ble_eq_true rfl)]
 simp(maxSteps:=4000000) only[go_sem,↓zj,zP]
 exact zo.of_eq rfl
theorem zjv:Holds prog G0 197 (ze1 198):=by
 refine Holds.of_exC D197 func197 rfl zK (by kernel_rfl) (tab [(198,zfs)]) (zk ⟨zfc,trivial⟩) zw fun k0 rl args hpu hpre=>?_
 unfold ze1 at hpre ⊢
 obtain⟨l,day,rfl,hl,hm⟩:=hpre
 simp only[zE,zV,zaB]
 have hgo:∀ (q:Co→Bool) (i:Nat),((l.take i).filter q).length≤i:=fun q i=>Nat.le_trans (List.length_filter_le _ _) (by rw[List.length_take];omega)
 generalize hq:zm5 day=q
 simp only[f197]
 rw[zb (Nat.le_of_ble_eq_true rfl)]
 simp(maxSteps:=4000000) only[go_sem,↓zj,zf,zP]
 refine zB.ents (wu.nilArr (d:=5) (l:=(4,1000)) 6 (fun _=>[]) rfl rfl rfl) ?_
 simp(maxSteps:=4000000) only[go_sem,↓zj]
 refine zB.loopF (β:=Nat) [(5,5),(7,7),(10,21)] (fun i=>[(5,.msl (4,1000) 0 ((l.take i).filter q).length),(10,.int .i64 i)]) (fun i=>updH (fun _=>none) (4,1000) (.arr ((l.take i).filter q).length 6 (fun j=>zP (el ((l.take i).filter q) j)))) (fun i=>i≤l.length) (fun i=>l.length - i) 0 (Nat.zero_le _) ?_ (zy.arr1 (zd _ _ _) rfl rfl fun i hi=>by simp at hi) ?_
 ·simp(maxSteps:=4000000) only[go_sem,↓zj]
  try simp
 ·intro ck i hck hi
  have hgi:=hgo q i
  have hi:i≤l.length:=hi
  generalize hq0:exC _ _ _ _ _=gg
  by_cases hlt:i < l.length
  ·have hd:decide ((i:Int) < (l.length:Int))=true:=by simp;omega
   have hmi:=hm _ (wd hlt)
   rw[← hq0]
   clear hq0
   simp(maxSteps:=4000000) only[go_sem,↓zj,hd,zf,zP,hq]
   refine⟨⟨by omega,by omega⟩,⟨el l i,day,rfl,hmi⟩,fun h=>?_,fun h=>?_⟩
   ·have hqi:q (el l i)=true:=h
    have hly:((l.take i).filter q).length+1=((l.take (i+1)).filter q).length:=by rw[yw hlt hqi,List.length_append];rfl
    exact⟨⟨by omega,by omega,wG rfl (vO (el l i))⟩,zn (by omega) (by omega),i+1,hlt,by omega,⟨by rw[hly],rfl⟩,zy.arr1 (zd _ _ _) hly rfl fun j hj=>by rw[yw hlt hqi];exact vn (f:=zP) rfl rfl hj⟩
   ·have hqi:q (el l i)=false:=h
    have hly:=qw hlt hqi
    exact⟨zn (by omega) (by omega),i+1,hlt,by omega,⟨by rw[hly],rfl⟩,zy.arr1 (by simp[updH];exact⟨rfl,rfl⟩) (by rw[hly]) rfl fun j hj=>by rw[hly]⟩
  ·have hd:decide ((i:Int) < (l.length:Int))=false:=by simp;omega
   obtain rfl:i=l.length:=by omega
   rw[← hq0]
   clear hq0
   simp(maxSteps:=4000000) only[go_sem,↓zj,hd,Nat.zero_add,zf]
   rw[List.take_length]
   exact zo.refl _
theorem zjs:Holds prog G0 199 (yK 6 zP jl Co.name 200):=by
 refine Holds.of_exC D199 func199 rfl zK (by kernel_rfl) (tab [(200,nmC zP jl Co.name)]) (zk ⟨zfb,trivial⟩) zw fun k0 rl args hpu hpre=>?_
 unfold yK at hpre ⊢
 obtain⟨l,rfl,hl⟩:=hpre
 simp only[zE,zaB]
 simp only[f199]
 rw[zb (Nat.le_of_ble_eq_true rfl)]
 simp(maxSteps:=4000000) only[go_sem,↓zj,zf,zP]
 refine zB.ents (wu.nilArr (d:=5) (l:=(4,1000)) 1 (fun _=>[]) rfl rfl rfl) ?_
 simp(maxSteps:=4000000) only[go_sem,↓zj]
 refine zB.loopF (β:=Nat) [(5,5),(7,7),(10,20)] (fun i=>[(5,.msl (4,1000) 0 i),(10,.int .i64 i)]) (fun i=>updH (fun _=>none) (4,1000) (.arr i 1 (fun i=>[.str (el l i).name]))) (fun i=>i≤l.length) (fun i=>l.length - i) 0 (Nat.zero_le _) ?_ (zy.arr1 (zd _ _ _) rfl rfl fun i hi=>by omega) ?_
 ·simp(maxSteps:=4000000) only[go_sem,↓zj]
  try simp
 ·intro ck i hck hi
  generalize hq0:exC _ _ _ _ _=gg
  by_cases hlt:i < l.length
  ·have hd:decide ((i:Int) < (l.length:Int))=true:=by simp;omega
   rw[← hq0]
   clear hq0
   simp(maxSteps:=4000000) only[go_sem,↓zj,hd,zf,zP]
   exact⟨⟨by omega,by omega⟩,⟨el l i,rfl⟩,⟨by omega,by omega,wG rfl yx⟩,zn (by omega) (by omega),i+1,hlt,by omega,⟨rfl,rfl⟩,zy.arr1 (zd _ _ _) rfl rfl fun j hj=>snoc (f:=fun i=>[.str (el l i).name]) rfl rfl hj⟩
  ·have hd:decide ((i:Int) < (l.length:Int))=false:=by simp;omega
   obtain rfl:i=l.length:=by omega
   rw[← hq0]
   clear hq0
   simp(maxSteps:=4000000) only[go_sem,↓zj,hd,Nat.zero_add]
   exact jD rfl fun i hi=>rfl
theorem zlM:Holds prog G0 116 zih:=by
 refine Holds.of_exC D116 func116 rfl zK (by kernel_rfl) (tab [(197,ze1 198),(198,zfs),(199,yK 6 zP jl Co.name 200),(200,nmC zP jl Co.name),(zm 3,zG)]) (zk ⟨zjv,zfc,zjs,zfb,za,trivial⟩) zw fun k0 rl args hpu hpre=>?_
 unfold zih at hpre ⊢
 obtain⟨r,day,rfl,hr,hb⟩:=hpre
 simp only[zE,zV,zr,zN,wv]
 simp only[f116]
 rw[zb (Nat.le_of_ble_eq_true rfl)]
 simp(maxSteps:=4000000) only[go_sem,↓zj,zt]
 exact⟨⟨_,day,rfl,hr.complaints,hb⟩,⟨_,rfl,Nat.le_trans (List.length_filter_le _ _) hr.complaints⟩,zo.of_eq rfl⟩
theorem oAt_ok:Holds prog G0 115 atQC:=by
 refine Holds.of_exC D115 func115 rfl zK (by kernel_rfl) (tab [(84,w7),(85,yb),(94,zgp)]) (zk ⟨wB,yh,vq,trivial⟩) zw fun k0 rl args hpu hpre=>?_
 unfold atQC at hpre ⊢
 obtain⟨l,day,rfl,hl,hE⟩:=hpre
 simp only[zE,zV,wF,wv]
 simp only[f115]
 rw[zb (Nat.le_of_ble_eq_true rfl)]
 simp(maxSteps:=4000000) only[go_sem,↓zj]
 exact⟨⟨l,rfl,hl,hE⟩,zo.refl _⟩
theorem zlN:Holds prog G0 47 zii:=by
 refine Holds.of_exC D47 func47 rfl zK (by kernel_rfl) (tab [(115,atQC),(116,zih)]) (zk ⟨oAt_ok,zlM,trivial⟩) zw fun k0 rl args hpu hpre=>?_
 unfold zii at hpre ⊢
 obtain⟨l,day,rfl,hl,hE⟩:=hpre
 simp only[zE,zV,wF,wv]
 have hg:=wN l
 have hcb:=zeP l
 by_cases w:zv [(replayed levelE l).2.2,rng day 0 999999999]=0
 ·have dw:decide (zv [(replayed levelE l).2.2,rng day 0 999999999]=0)=true:=decide_eq_true w
  simp only[f47]
  rw[zb (Nat.le_of_ble_eq_true rfl)]
  simp(maxSteps:=4000000) only[go_sem,↓zj,dw,Bool.not_true,zz]
  refine⟨⟨l,day,rfl,hl,hE⟩,⟨_,day,rfl,hg.rl,hcb⟩,zo.of_eq ?_⟩
  unfold zfr
  rw[if_neg (fun q=>q w)]
 ·have dw:decide (zv [(replayed levelE l).2.2,rng day 0 999999999]=0)=false:=decide_eq_false w
  simp only[f47]
  rw[zb (Nat.le_of_ble_eq_true rfl)]
  simp(maxSteps:=4000000) only[go_sem,↓zj,dw,Bool.not_false,zz]
  refine⟨⟨l,day,rfl,hl,hE⟩,?_⟩
  unfold zfr
  rw[if_pos w]
  exact zo.tup ⟨zo.nils _ _,zo.refl _,trivial⟩
end Go.Fly.Tryz
end
section
set_option maxRecDepth 100000
set_option maxHeartbeats 1000000
namespace Go.Fly.Tryz
open Go Off
end Go.Fly.Tryz
end
