/- The office: what is matched, listed, offered. -/
import Derived.Test.YtkfbgillhhhdgaaGreatDoorSYOOB
import Derived.Test.YtkfbgillhhhdgaaGreatDoorAM
set_option linter.unusedSimpArgs false
set_option linter.unusedVariables false
set_option maxRecDepth 100000
set_option maxHeartbeats 1000000
namespace Go.Fly.Tryz
open Go Off Go.Proofs.Tryz
theorem zgB:Holds prog G0 152 (flB (fun f=>decide (f.heard≠-1))):=by
 refine Holds.of_exC D152 func152 rfl zK (by kernel_rfl) (tab [(zm 1,zG)]) (zk ⟨za,trivial⟩) zw fun k0 rl args hpu hpre=>?_
 unfold flB at hpre ⊢
 obtain⟨f,rfl⟩:=hpre
 simp only[zE,zq,zd9]
 simp only[f152]
 rw[zb (Nat.le_of_ble_eq_true rfl)]
 simp(maxSteps:=4000000) only[go_sem,↓zj,zM]
 exact zo.of_eq (by by_cases h:f.heard=-1 <;> simp[h])
theorem zaO:Holds prog G0 226 zc7:=by
 refine Holds.of_exC D226 func226 rfl zK (by kernel_rfl) (tab [(zm 2,zG)]) (zk ⟨za,trivial⟩) zw fun k0 rl args hpu hpre=>?_
 unfold zc7 at hpre ⊢
 obtain⟨f,s,rfl⟩:=hpre
 simp only[zE,zV,zq,zr,zd9]
 simp only[f226]
 rw[zb (Nat.le_of_ble_eq_true rfl)]
 simp(maxSteps:=4000000) only[go_sem,↓zj,zM]
 exact zo.of_eq rfl
theorem zju:Holds prog G0 225 (ze0 152 226):=by
 refine Holds.of_exC D225 func225 rfl zK (by kernel_rfl) (tab [(152,flB (fun f=>decide (f.heard≠-1))),(226,zc7)]) (zk ⟨zgB,zaO,trivial⟩) zw fun k0 rl args hpu hpre=>?_
 unfold ze0 at hpre ⊢
 obtain⟨l,p,rfl,hl⟩:=hpre
 simp only[zE,zV,zcg]
 have hgo:∀ (q:Fl→Bool) (i:Nat),((l.take i).filter q).length≤i:=fun q i=>Nat.le_trans (List.length_filter_le _ _) (by rw[List.length_take];omega)
 cases p with
 | none =>
   simp only[keptV,zfv]
   generalize hq:(fun f:Fl=>decide (f.heard≠-1))=q
   simp only[f225]
   rw[zb (Nat.le_of_ble_eq_true rfl)]
   simp(maxSteps:=4000000) only[go_sem,↓zj,zf,zM]
   refine zB.ents (wu.nilArr (d:=5) (l:=(4,1000)) 5 (fun _=>[]) rfl rfl rfl) ?_
   simp(maxSteps:=4000000) only[go_sem,↓zj]
   refine zB.loopF (β:=Nat) [(5,5),(7,7),(10,21)] (fun i=>[(5,.msl (4,1000) 0 ((l.take i).filter q).length),(10,.int .i64 i)]) (fun i=>updH (fun _=>none) (4,1000) (.arr ((l.take i).filter q).length 5 (fun j=>zM (el ((l.take i).filter q) j)))) (fun i=>i≤l.length) (fun i=>l.length - i) 0 (Nat.zero_le _) ?_ (zy.arr1 (zd _ _ _) rfl rfl fun i hi=>by simp at hi) ?_
   ·simp(maxSteps:=4000000) only[go_sem,↓zj]
    try simp
   ·intro ck i hck hi
    have hgi:=hgo q i
    have hi:i≤l.length:=hi
    generalize hq0:exC _ _ _ _ _=gg
    by_cases hlt:i < l.length
    ·have hd:decide ((i:Int) < (l.length:Int))=true:=by simp;omega
     rw[← hq0]
     clear hq0
     simp(maxSteps:=4000000) only[go_sem,↓zj,hd,zf,zM]
     refine⟨⟨by omega,by omega⟩,⟨el l i,rfl⟩,fun h=>?_,fun h=>?_⟩
     ·have hqi:q (el l i)=true:=by rw[← hq];first | (rw[← hq] at h;exact h) | exact decide_eq_true h
      have hly:((l.take i).filter q).length+1=((l.take (i+1)).filter q).length:=by rw[yw hlt hqi,List.length_append];rfl
      exact⟨⟨by omega,by omega,wG rfl (vN (el l i))⟩,zn (by omega) (by omega),i+1,hlt,by omega,⟨by rw[hly],rfl⟩,zy.arr1 (zd _ _ _) hly rfl fun j hj=>by rw[yw hlt hqi];exact vn (f:=zM) rfl rfl hj⟩
     ·have hqi:q (el l i)=false:=by rw[← hq];first | (rw[← hq] at h;exact h) | exact decide_eq_false h
      have hly:=qw hlt hqi
      exact⟨zn (by omega) (by omega),i+1,hlt,by omega,⟨by rw[hly],rfl⟩,zy.arr1 (by simp[updH];exact⟨rfl,rfl⟩) (by rw[hly]) rfl fun j hj=>by rw[hly]⟩
    ·have hd:decide ((i:Int) < (l.length:Int))=false:=by simp;omega
     obtain rfl:i=l.length:=by omega
     rw[← hq0]
     clear hq0
     simp(maxSteps:=4000000) only[go_sem,↓zj,hd,Nat.zero_add,zf]
     rw[List.take_length]
     exact zo.refl _
 | some s =>
   simp only[keptV,zfu]
   generalize hq:(fun f:Fl=>decide (f.type=s))=q
   simp only[f225]
   rw[zb (Nat.le_of_ble_eq_true rfl)]
   simp(maxSteps:=4000000) only[go_sem,↓zj,zf,zM]
   refine zB.ents (wu.nilArr (d:=5) (l:=(4,1000)) 5 (fun _=>[]) rfl rfl rfl) ?_
   simp(maxSteps:=4000000) only[go_sem,↓zj]
   refine zB.loopF (β:=Nat) [(5,5),(7,7),(10,21)] (fun i=>[(5,.msl (4,1000) 0 ((l.take i).filter q).length),(10,.int .i64 i)]) (fun i=>updH (fun _=>none) (4,1000) (.arr ((l.take i).filter q).length 5 (fun j=>zM (el ((l.take i).filter q) j)))) (fun i=>i≤l.length) (fun i=>l.length - i) 0 (Nat.zero_le _) ?_ (zy.arr1 (zd _ _ _) rfl rfl fun i hi=>by simp at hi) ?_
   ·simp(maxSteps:=4000000) only[go_sem,↓zj]
    try simp
   ·intro ck i hck hi
    have hgi:=hgo q i
    have hi:i≤l.length:=hi
    generalize hq0:exC _ _ _ _ _=gg
    by_cases hlt:i < l.length
    ·have hd:decide ((i:Int) < (l.length:Int))=true:=by simp;omega
     rw[← hq0]
     clear hq0
     simp(maxSteps:=4000000) only[go_sem,↓zj,hd,zf,zM]
     refine⟨⟨by omega,by omega⟩,⟨el l i,s,rfl⟩,fun h=>?_,fun h=>?_⟩
     ·have hqi:q (el l i)=true:=by rw[← hq];first | (rw[← hq] at h;exact h) | exact decide_eq_true h
      have hly:((l.take i).filter q).length+1=((l.take (i+1)).filter q).length:=by rw[yw hlt hqi,List.length_append];rfl
      exact⟨⟨by omega,by omega,wG rfl (vN (el l i))⟩,zn (by omega) (by omega),i+1,hlt,by omega,⟨by rw[hly],rfl⟩,zy.arr1 (zd _ _ _) hly rfl fun j hj=>by rw[yw hlt hqi];exact vn (f:=zM) rfl rfl hj⟩
     ·have hqi:q (el l i)=false:=by rw[← hq];first | (rw[← hq] at h;exact h) | exact decide_eq_false h
      have hly:=qw hlt hqi
      exact⟨zn (by omega) (by omega),i+1,hlt,by omega,⟨by rw[hly],rfl⟩,zy.arr1 (by simp[updH];exact⟨rfl,rfl⟩) (by rw[hly]) rfl fun j hj=>by rw[hly]⟩
    ·have hd:decide ((i:Int) < (l.length:Int))=false:=by simp;omega
     obtain rfl:i=l.length:=by omega
     rw[← hq0]
     clear hq0
     simp(maxSteps:=4000000) only[go_sem,↓zj,hd,Nat.zero_add,zf]
     rw[List.take_length]
     exact zo.refl _
theorem zbQ:Holds prog G0 155 kW:=by
 refine Holds.of_exC D155 func155 rfl zK (by kernel_rfl) (tab [(152,flB (fun f=>decide (f.heard≠-1))),(225,ze0 152 226),(226,zc7),(zm 3,zG)]) (zk ⟨zgB,zju,zaO,za,trivial⟩) zw fun k0 rl args hpu hpre=>?_
 unfold kW at hpre ⊢
 obtain⟨r,s,rfl,hr⟩:=hpre
 simp only[zE,zV,zr,zN,zF]
 simp only[f155]
 rw[zb (Nat.le_of_ble_eq_true rfl)]
 simp(maxSteps:=4000000) only[go_sem,↓zj]
 exact⟨⟨_,none,rfl,hr.flights⟩,⟨_,some s,rfl,Nat.le_trans (List.length_filter_le _ _) hr.flights⟩,zo.of_eq (by rw[← zjG])⟩
theorem zlR:Holds prog G0 177 ziw:=by
 refine Holds.of_exC D177 func177 rfl zK (by kernel_rfl) (tab []) (zk trivial) zw fun k0 rl args hpu hpre=>?_
 unfold ziw at hpre ⊢
 obtain⟨r,d,rfl,hr⟩:=hpre
 simp only[zE,zV,zr,zN,wv]
 have hfl:=hr.flights
 simp only[f177]
 rw[zb (Nat.le_of_ble_eq_true rfl)]
 simp(maxSteps:=4000000) only[go_sem,↓zj,zf,zM]
 refine zB.loopF (β:=Nat) [(5,5),(7,7),(13,21)] (fun i=>[(5,.bool false),(13,.int .i64 i)]) (fun _=>fun _=>none) (fun i=>i≤r.flights.length∧∀ j,j < i→decide ((el r.flights j).day=d)=false) (fun i=>r.flights.length - i) 0 ⟨Nat.zero_le _,fun j hj=>by omega⟩ ?_ zy.none ?_
 ·simp(maxSteps:=4000000) only[go_sem,↓zj]
  try simp
 ·intro ck i hck hI
  obtain⟨hi,hb⟩:=hI
  generalize hq0:exC _ _ _ _ _=gg
  by_cases hlt:i < r.flights.length
  ·have hd:decide ((i:Int) < (r.flights.length:Int))=true:=by simp;omega
   rw[← hq0]
   clear hq0
   simp(maxSteps:=4000000) only[go_sem,↓zj,hd,zf,zM]
   refine⟨⟨by omega,by omega⟩,fun h=>?_,fun h=>⟨zn (by omega) (by omega),i+1,⟨hlt,fun j hj=>?_⟩,by omega,?_,zy.none⟩⟩
   ·exact zo.of_eq (by unfold Reg.flies;rw[zbo hlt hb (decide_eq_true h)])
   ·by_cases e:j=i
    ·subst e;exact h
    ·exact of_decide_eq_false (hb j (by omega))
   ·rfl
  ·have hd:decide ((i:Int) < (r.flights.length:Int))=false:=by simp;omega
   obtain rfl:i=r.flights.length:=by omega
   rw[← hq0]
   clear hq0
   simp(maxSteps:=4000000) only[go_sem,↓zj,hd]
   exact zo.of_eq (by unfold Reg.flies;rw[zbp hb])
theorem zjt:Holds prog G0 227 zdV:=by
 refine Holds.of_exC D227 func227 rfl zK (by kernel_rfl) (tab [(105,yY)]) (zk ⟨wQ,trivial⟩) zw fun k0 rl args hpu hpre=>?_
 unfold zdV at hpre ⊢
 obtain⟨r,s,rfl,hr,hs,hlast⟩:=hpre
 simp only[zE,zV,zr,zN,zF]
 have hix:=yz hs
 have hm:=hr.maps
 by_cases h0:r.maps.length=0
 ·have d0:decide ((r.maps.length:Int)=0)=true:=decide_eq_true (by omega)
  simp only[f227]
  rw[zb (Nat.le_of_ble_eq_true rfl)]
  simp(maxSteps:=4000000) only[go_sem,↓zj,hix,zf,wq,zh,d0]
  exact zo.of_eq (by rw[zgO h0];rfl)
 ·have d0:decide ((r.maps.length:Int)=0)=false:=decide_eq_false (by omega)
  have dn:((r.maps.length:Int) - 1).toNat=r.maps.length - 1:=by omega
  obtain⟨m,hmm⟩:∃ m,el r.maps (r.maps.length - 1)=m:=⟨_,rfl⟩
  have hlm:m.levels.length≤1000000:=hlast m (by rw[zbX (by omega),hmm])
  have hls:r.listed s=m.levels[zO (r.namesOf 104) s]?:=by rw[zgN (by omega),hmm]
  have hpl:=yG hs
  by_cases h1:m.levels.length≤zO (r.namesOf 104) s
  ·have d1:decide ((m.levels.length:Int)≤(zO (r.namesOf 104) s:Int))=true:=decide_eq_true (by omega)
   simp only[f227]
   rw[zb (Nat.le_of_ble_eq_true rfl)]
   simp(maxSteps:=4000000) only[go_sem,↓zj,hix,zf,wq,zh,d0,dn,hmm,d1]
   refine⟨zn (by omega) (by omega),⟨by omega,by omega⟩,⟨r,104,s,rfl,hr⟩,zo.of_eq ?_⟩
   rw[hls,List.getElem?_eq_none h1];rfl
  ·have d1:decide ((m.levels.length:Int)≤(zO (r.namesOf 104) s:Int))=false:=decide_eq_false (by omega)
   simp only[f227]
   rw[zb (Nat.le_of_ble_eq_true rfl)]
   simp(maxSteps:=4000000) only[go_sem,↓zj,hix,zf,wq,zh,d0,dn,hmm,d1,Int.toNat_natCast]
   refine⟨zn (by omega) (by omega),⟨by omega,by omega⟩,⟨r,104,s,rfl,hr⟩,⟨by omega,by omega⟩,zo.of_eq ?_⟩
   rw[hls,List.getElem?_eq_getElem (by omega),← yp _ (by omega)];rfl
theorem zi1:Holds prog G0 163 zm1:=by
 refine Holds.of_exC D163 func163 rfl zK (by kernel_rfl) (tab [(227,zdV)]) (zk ⟨zjt,trivial⟩) zw fun k0 rl args hpu hpre=>?_
 unfold zm1 at hpre ⊢
 obtain⟨r,s,rfl,hr,hs,hlast⟩:=hpre
 simp only[zE,zV,zr,zN,zF]
 cases hL:r.listed s with
 | none =>
   simp only[f163]
   rw[zb (Nat.le_of_ble_eq_true rfl)]
   simp(maxSteps:=4000000) only[go_sem,↓zj,hL,optV]
   exact⟨⟨r,s,rfl,hr,hs,hlast⟩,zo.of_eq (by simp[Reg.isLoud,hL])⟩
 | some n =>
   simp only[f163]
   rw[zb (Nat.le_of_ble_eq_true rfl)]
   simp(maxSteps:=4000000) only[go_sem,↓zj,hL,optV]
   exact⟨⟨r,s,rfl,hr,hs,hlast⟩,zo.of_eq (by simp[Reg.isLoud,hL])⟩
theorem zi3:Holds prog G0 229 kQ:=by
 refine Holds.of_exC D229 func229 rfl zK (by kernel_rfl) (tab [(zm 2,zG)]) (zk ⟨za,trivial⟩) zw fun k0 rl args hpu hpre=>?_
 unfold kQ at hpre ⊢
 obtain⟨f,s,rfl⟩:=hpre
 simp only[zE,zV,zq,zr,ziP]
 simp only[f229]
 rw[zb (Nat.le_of_ble_eq_true rfl)]
 simp(maxSteps:=4000000) only[go_sem,↓zj,zX]
 exact zo.of_eq rfl
theorem zkK:Holds prog G0 255 (ziq 229):=by
 refine Holds.of_exC D255 func255 rfl zK (by kernel_rfl) (tab [(229,kQ)]) (zk ⟨zi3,trivial⟩) zw fun k0 rl args hpu hpre=>?_
 unfold ziq at hpre ⊢
 obtain⟨l,s,rfl,hl⟩:=hpre
 simp only[zE,zV,zaz,zek]
 simp only[f255]
 rw[zb (Nat.le_of_ble_eq_true rfl)]
 simp(maxSteps:=4000000) only[go_sem,↓zj,zf,zX]
 refine zB.loopF (β:=Nat) [(4,5),(8,18)] (fun i=>[(8,.int .i64 i)]) (fun _=>fun _=>none) (fun i=>i≤l.length∧∀ j,j < i→decide ((el l j).house=s)=false) (fun i=>l.length - i) 0 ⟨Nat.zero_le _,fun j hj=>by omega⟩ ?_ zy.none ?_
 ·simp(maxSteps:=4000000) only[go_sem,↓zj]
  try simp
 ·intro ck i hck hI
  obtain⟨hi,hb⟩:=hI
  generalize hq0:exC _ _ _ _ _=gg
  by_cases hlt:i < l.length
  ·have hd:decide ((i:Int) < (l.length:Int))=true:=by simp;omega
   rw[← hq0]
   clear hq0
   simp(maxSteps:=4000000) only[go_sem,↓zj,hd,zf,zX]
   refine⟨⟨by omega,by omega⟩,⟨el l i,s,rfl⟩,fun h=>zo.of_eq (by rw[zlz hlt hb (decide_eq_true h)]),fun h=>⟨zn (by omega) (by omega),i+1,⟨hlt,fun j hj=>?_⟩,by omega,rfl,zy.none⟩⟩
   by_cases e:j=i
   ·subst e;exact h
   ·exact of_decide_eq_false (hb j (by omega))
  ·have hd:decide ((i:Int) < (l.length:Int))=false:=by simp;omega
   obtain rfl:i=l.length:=by omega
   rw[← hq0]
   clear hq0
   simp(maxSteps:=4000000) only[go_sem,↓zj,hd]
   exact zo.of_eq (by rw[ofIdx_no hb])
theorem zkL:Holds prog G0 228 (ziU 229):=by
 refine Holds.of_exC D228 func228 rfl zK (by kernel_rfl) (tab [(255,ziq 229)]) (zk ⟨zkK,trivial⟩) zw fun k0 rl args hpu hpre=>?_
 unfold ziU at hpre ⊢
 obtain⟨l,s,rfl,hl⟩:=hpre
 simp only[zE,zV,zaz,zek]
 simp only[f228]
 rw[zb (Nat.le_of_ble_eq_true rfl)]
 simp(maxSteps:=4000000) only[go_sem,↓zj]
 exact⟨⟨l,s,rfl,hl⟩,zo.of_eq (by rw[zf8])⟩
theorem zlQ:Holds prog G0 164 qr:=by
 refine Holds.of_exC D164 func164 rfl zK (by kernel_rfl) (tab [(228,ziU 229),(229,kQ),(zm 3,zG)]) (zk ⟨zkL,zi3,za,trivial⟩) zw fun k0 rl args hpu hpre=>?_
 unfold qr at hpre ⊢
 obtain⟨r,s,rfl,hr⟩:=hpre
 simp only[zE,zV,zr,zN,zF]
 simp only[f164]
 rw[zb (Nat.le_of_ble_eq_true rfl)]
 simp(maxSteps:=4000000) only[go_sem,↓zj]
 exact⟨⟨_,s,rfl,hr.offers⟩,zo.of_eq rfl⟩
end Go.Fly.Tryz
