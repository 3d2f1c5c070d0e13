/- Part of a proof. No conditions. -/
import Derived.Test.YtkfbgillhhhdgaaGreatDoorSYORV
import Derived.Test.YtkfbgillhhhdgaaGreatDoorSYORM
import Derived.Test.YtkfbgillhhhdgaaGreatDoorBB
import Derived.Test.YtkfbgillhhhdgaaGreatDoorSYORO
import Derived.Test.YtkfbgillhhhdgaaGreatDoorSYORB
import Derived.Test.YtkfbgillhhhdgaaGreatDoorSYORJ
import Derived.Test.YtkfbgillhhhdgaaGreatDoorSYOSU
import Derived.Test.YtkfbgillhhhdgaaGreatDoorCards
import Derived.Test.YtkfbgillhhhdgaaGreatDoorTie
set_option linter.unusedSimpArgs false
set_option linter.unusedVariables false
section
set_option maxRecDepth 100000
set_option maxHeartbeats 1000000
namespace Go.Fly.Tryz
open Go Off
end Go.Fly.Tryz
end
section
set_option maxRecDepth 100000
set_option maxHeartbeats 1000000
namespace Go.Fly.Tryz
open Go Off Go.Proofs.Tryz
theorem rElig_ok:Holds prog G0 51 znY:=by
 refine Holds.of_exC D51 func51 rfl zK (by kernel_rfl) (tab [(118,zdF),(119,zdG),(zm 1,zG)]) (zk ⟨zo4,zgs,za,trivial⟩) zw fun k0 rl args hpu hpre=>?_
 unfold znY at hpre ⊢
 obtain⟨r,rfl,hrl,hlo,hu⟩:=hpre
 simp only[zE,zq,zN]
 obtain⟨b,hb⟩:∃ b:Str→Bool,b=fun s=>r.isLoud s && !r.hasOffer s:=⟨_,rfl⟩
 have hgo:∀ i,(((r.namesOf 104).take i).filter b).length≤i:=fun i=>Nat.le_trans (List.length_filter_le _ _) (by rw[List.length_take];omega)
 have hhl:zf 2 zZ r.houses=.sl r.houses.length 2 fun i=>zZ (el r.houses i):=rfl
 have hnl:(r.namesOf 104).length=r.houses.length:=by show (r.houses.map _).length=_;rw[List.length_map]
 have hr:=hrl.houses
 simp only[f51]
 rw[zb (Nat.le_of_ble_eq_true rfl)]
 simp(maxSteps:=4000000) only[go_sem,↓zj,↓reduceIte,hhl]
 refine zB.ents (wu.nilArr (d:=3) (l:=(4,1000)) 1 (fun _=>[]) rfl rfl rfl) ?_
 simp(maxSteps:=400000) only[go_sem,↓zj]
 refine zB.loopF (β:=Nat) [(3,44)] (fun i=>[(3,.msl (4,1000) 0 (((r.namesOf 104).take i).filter b).length),(4,.int .i64 i)]) (fun i=>updH (fun _=>none) (4,1000) (.arr (((r.namesOf 104).take i).filter b).length 1 (fun j=>[.str (el (((r.namesOf 104).take i).filter b) j)]))) (fun i=>i≤r.houses.length) (fun i=>r.houses.length - i) 0 (Nat.zero_le _) ?_ (zy.arr1 (zd _ _ _) rfl rfl fun i hi=>by simp at hi) ?_
 ·simp(maxSteps:=400000) only[go_sem,↓zj]
  try exact rfl
 ·intro ck i hck hi
  have hi:i≤r.houses.length:=hi
  have hgi:=hgo i
  generalize hq0:exC _ _ _ _ _=gg
  by_cases hlt:i < r.houses.length
  ·have hd:decide ((i:Int) < (r.houses.length:Int))=true:=decide_eq_true (by omega)
   have hti:((i:Int)).toNat=i:=by omega
   have hel:el (r.namesOf 104) i=(el r.houses i).name:=vD (f:=Ho.name) r.houses hlt
   have hlt':i < (r.namesOf 104).length:=by omega
   have hli:=zo7 hu hlt
   have hno:b (el (r.namesOf 104) i)=false→(((r.namesOf 104).take (i+1)).filter b)=(((r.namesOf 104).take i).filter b):=fun q=>qw hlt' q
   have hye:b (el (r.namesOf 104) i)=true→(((r.namesOf 104).take (i+1)).filter b)=(((r.namesOf 104).take i).filter b)++[el (r.namesOf 104) i]:=fun q=>yw hlt' q
   have hbe:b (el (r.namesOf 104) i)=(r.isLoud (el r.houses i).name && !r.hasOffer (el r.houses i).name):=by rw[hb,hel]
   cases hp:r.pubAt i with
   | none =>
     rw[hp] at hli
     have hq:=hno (by rw[hbe,zm0 hli];rfl)
     rw[← hq0]
     clear hq0
     simp(maxSteps:=400000) only[go_sem,↓zj,↓reduceIte,hd,hhl,hti,hp,optW]
     refine⟨⟨r,i,rfl,hrl,hlo⟩,zn (by omega) (by omega),i+1,hlt,by omega,⟨by rw[hq],rfl⟩,zy.arr1 (zd _ _ _) (by rw[hq]) rfl fun j hj=>by rw[hq]⟩
   | some n =>
     rw[hp] at hli
     have hlo2:r.isLoud (el r.houses i).name=decide (60≤n):=by unfold Reg.isLoud;rw[hli]
     cases h1:decide (60≤n) with
     | false =>
       have hq:=hno (by rw[hbe,hlo2,h1];rfl)
       rw[← hq0]
       clear hq0
       simp(maxSteps:=400000) only[go_sem,↓zj,↓reduceIte,hd,hhl,hti,hp,optW,h1]
       refine⟨⟨r,i,rfl,hrl,hlo⟩,zn (by omega) (by omega),i+1,hlt,by omega,⟨by rw[hq],rfl⟩,zy.arr1 (zd _ _ _) (by rw[hq]) rfl fun j hj=>by rw[hq]⟩
     | true =>
       cases h2:r.hasOffer (el r.houses i).name with
       | true =>
         have hq:=hno (by rw[hbe,h2,Bool.not_true,Bool.and_false])
         rw[← hq0]
         clear hq0
         simp(maxSteps:=400000) only[go_sem,↓zj,↓reduceIte,hd,hhl,hti,hp,optW,h1,zZ,h2]
         refine⟨⟨r,i,rfl,hrl,hlo⟩,⟨by omega,by omega⟩,⟨r,_,rfl,hrl⟩,zn (by omega) (by omega),i+1,hlt,by omega,⟨by rw[hq],rfl⟩,zy.arr1 (zd _ _ _) (by rw[hq]) rfl fun j hj=>by rw[hq]⟩
       | false =>
         have hq:=hye (by rw[hbe,hlo2,h1,h2];rfl)
         rw[← hq0]
         clear hq0
         simp(maxSteps:=400000) only[go_sem,↓zj,↓reduceIte,hd,hhl,hti,hp,optW,h1,zZ,h2]
         have hly:(((r.namesOf 104).take i).filter b).length+1=(((r.namesOf 104).take (i+1)).filter b).length:=by rw[hq,List.length_append];rfl
         refine⟨⟨r,i,rfl,hrl,hlo⟩,⟨by omega,by omega⟩,⟨r,_,rfl,hrl⟩,⟨by omega,by omega⟩,⟨by omega,by omega,wG rfl yx⟩,zn (by omega) (by omega),i+1,hlt,by omega,⟨by rw[hly],rfl⟩,zy.arr1 (zd _ _ _) hly rfl fun j hj=>by rw[hq,hel];exact vn (f:=fun s:Str=>[V.str s]) rfl rfl hj⟩
  ·have hd:decide ((i:Int) < (r.houses.length:Int))=false:=decide_eq_false (by omega)
   obtain rfl:i=r.houses.length:=by omega
   rw[← hq0]
   clear hq0
   simp(maxSteps:=400000) only[go_sem,↓zj,↓reduceIte,hd,hhl,Nat.zero_add]
   have he:r.eligible=(r.namesOf 104).filter b:=by rw[hb];rfl
   rw[he,← hnl,List.take_length]
   exact zo.refl _
theorem rLate_ok:Holds prog G0 52 znX:=by
 refine Holds.of_exC D52 func52 rfl zK (by kernel_rfl) (tab [(zm 2,zG)]) (zk ⟨za,trivial⟩) zw fun k0 rl args hpu hpre=>?_
 unfold znX at hpre ⊢
 obtain⟨r,day,rfl,hrl,hco,han⟩:=hpre
 simp only[zE,zV,zq,zN,wv]
 obtain⟨b,hb⟩:∃ b:Co→Bool,b=zm5 day:=⟨_,rfl⟩
 have hgo:∀ i,(((r.complaints.take i).filter b).map Co.name).length≤i:=fun i=>by rw[List.length_map];exact Nat.le_trans (List.length_filter_le _ _) (by rw[List.length_take];omega)
 have hcl:zf 6 zP r.complaints=.sl r.complaints.length 6 fun i=>zP (el r.complaints i):=rfl
 have hr:=hrl.complaints
 simp only[f52]
 rw[zb (Nat.le_of_ble_eq_true rfl)]
 simp(maxSteps:=4000000) only[go_sem,↓zj,↓reduceIte,hcl]
 refine zB.ents (wu.nilArr (d:=5) (l:=(4,1000)) 1 (fun _=>[]) rfl rfl rfl) ?_
 simp(maxSteps:=400000) only[go_sem,↓zj]
 refine zB.loopF (β:=Nat) [(5,42)] (fun i=>[(5,.msl (4,1000) 0 (((r.complaints.take i).filter b).map Co.name).length),(6,.int .i64 i)]) (fun i=>updH (fun _=>none) (4,1000) (.arr (((r.complaints.take i).filter b).map Co.name).length 1 (fun j=>[.str (el (((r.complaints.take i).filter b).map Co.name) j)]))) (fun i=>i≤r.complaints.length) (fun i=>r.complaints.length - i) 0 (Nat.zero_le _) ?_ (zy.arr1 (zd _ _ _) rfl rfl fun i hi=>by simp at hi) ?_
 ·simp(maxSteps:=400000) only[go_sem,↓zj]
  try exact rfl
 ·intro ck i hck hi
  have hi:i≤r.complaints.length:=hi
  have hgi:=hgo i
  generalize hq0:exC _ _ _ _ _=gg
  by_cases hlt:i < r.complaints.length
  ·have hd:decide ((i:Int) < (r.complaints.length:Int))=true:=decide_eq_true (by omega)
   have hdy:=hco _ (wd hlt)
   have hneg:=zo5 (han _ (wd hlt))
   have hno:b (el r.complaints i)=false→(((r.complaints.take (i+1)).filter b).map Co.name)=(((r.complaints.take i).filter b).map Co.name):=fun q=>by rw[qw hlt q]
   have hye:b (el r.complaints i)=true→(((r.complaints.take (i+1)).filter b).map Co.name)=(((r.complaints.take i).filter b).map Co.name)++[(el r.complaints i).name]:=fun q=>by rw[yw hlt q,List.map_append];rfl
   have hbv:b (el r.complaints i)=(decide ((el r.complaints i).day+30 < day) && (decide ((el r.complaints i).answered=-1) || decide ((el r.complaints i).day+30 < (el r.complaints i).answered))):=by rw[hb];rfl
   cases h1:decide ((el r.complaints i).day+30 < day) <;> cases h2:decide ((el r.complaints i).answered=-1) <;> cases h3:decide ((el r.complaints i).day+30 < (el r.complaints i).answered)
   all_goals
    rw[h1,h2,h3] at hbv
    rw[h2] at hneg
    rw[← hq0]
    clear hq0
    simp(maxSteps:=400000) only[go_sem,↓zj,↓reduceIte,hd,hcl,zP,h1,h2,h3,hneg]
   ·have hq:=hno hbv
    exact⟨⟨by omega,by omega⟩,zn (by omega) (by omega),zn (by omega) (by omega),i+1,hlt,by omega,⟨by rw[hq],rfl⟩,zy.arr1 (by repeat (first | exact zd _ _ _ | rw[zc (by simp)])) (by rw[hq]) rfl fun j hj=>by rw[hq]⟩
   ·have hq:=hno hbv
    exact⟨⟨by omega,by omega⟩,zn (by omega) (by omega),zn (by omega) (by omega),i+1,hlt,by omega,⟨by rw[hq],rfl⟩,zy.arr1 (by repeat (first | exact zd _ _ _ | rw[zc (by simp)])) (by rw[hq]) rfl fun j hj=>by rw[hq]⟩
   ·have hq:=hno hbv
    exact⟨⟨by omega,by omega⟩,zn (by omega) (by omega),zn (by omega) (by omega),i+1,hlt,by omega,⟨by rw[hq],rfl⟩,zy.arr1 (by repeat (first | exact zd _ _ _ | rw[zc (by simp)])) (by rw[hq]) rfl fun j hj=>by rw[hq]⟩
   ·have hq:=hno hbv
    exact⟨⟨by omega,by omega⟩,zn (by omega) (by omega),zn (by omega) (by omega),i+1,hlt,by omega,⟨by rw[hq],rfl⟩,zy.arr1 (by repeat (first | exact zd _ _ _ | rw[zc (by simp)])) (by rw[hq]) rfl fun j hj=>by rw[hq]⟩
   ·have hq:=hno hbv
    exact⟨⟨by omega,by omega⟩,zn (by omega) (by omega),zn (by omega) (by omega),zn (by omega) (by omega),i+1,hlt,by omega,⟨by rw[hq],rfl⟩,zy.arr1 (by repeat (first | exact zd _ _ _ | rw[zc (by simp)])) (by rw[hq]) rfl fun j hj=>by rw[hq]⟩
   ·have hq:=hye hbv
    have hly:(((r.complaints.take i).filter b).map Co.name).length+1=(((r.complaints.take (i+1)).filter b).map Co.name).length:=by rw[hq,List.length_append];rfl
    exact⟨⟨by omega,by omega⟩,zn (by omega) (by omega),zn (by omega) (by omega),⟨by omega,by omega,wG rfl yx⟩,zn (by omega) (by omega),i+1,hlt,by omega,⟨by rw[hly],rfl⟩,zy.arr1 (zd _ _ _) hly rfl fun j hj=>by rw[hq];exact vn (f:=fun s:Str=>[V.str s]) rfl rfl hj⟩
   ·have hq:=hye hbv
    have hly:(((r.complaints.take i).filter b).map Co.name).length+1=(((r.complaints.take (i+1)).filter b).map Co.name).length:=by rw[hq,List.length_append];rfl
    exact⟨⟨by omega,by omega⟩,zn (by omega) (by omega),⟨by omega,by omega,wG rfl yx⟩,zn (by omega) (by omega),i+1,hlt,by omega,⟨by rw[hly],rfl⟩,zy.arr1 (zd _ _ _) hly rfl fun j hj=>by rw[hq];exact vn (f:=fun s:Str=>[V.str s]) rfl rfl hj⟩
   ·have hq:=hye hbv
    have hly:(((r.complaints.take i).filter b).map Co.name).length+1=(((r.complaints.take (i+1)).filter b).map Co.name).length:=by rw[hq,List.length_append];rfl
    exact⟨⟨by omega,by omega⟩,zn (by omega) (by omega),⟨by omega,by omega,wG rfl yx⟩,zn (by omega) (by omega),i+1,hlt,by omega,⟨by rw[hly],rfl⟩,zy.arr1 (zd _ _ _) hly rfl fun j hj=>by rw[hq];exact vn (f:=fun s:Str=>[V.str s]) rfl rfl hj⟩
  ·have hd:decide ((i:Int) < (r.complaints.length:Int))=false:=decide_eq_false (by omega)
   obtain rfl:i=r.complaints.length:=by omega
   rw[← hq0]
   clear hq0
   simp(maxSteps:=400000) only[go_sem,↓zj,↓reduceIte,hd,hcl,Nat.zero_add]
   have he:r.lateL day=(r.complaints.filter b).map Co.name:=by rw[hb];rfl
   rw[he,List.take_length]
   exact zo.refl _
theorem zo6:Holds prog G0 54 znZ:=by
 refine Holds.of_exC D54 func54 rfl zK (by kernel_rfl) (tab [(80,zhA)]) (zk ⟨zkI,trivial⟩) zw fun k0 rl args hpu hpre=>?_
 unfold znZ at hpre ⊢
 obtain⟨n,get,e,rfl,hs,hn⟩:=hpre
 by_cases he:e=0
 ·have d1:decide (e=0)=true:=decide_eq_true he
  simp only[f54]
  rw[zb (Nat.le_of_ble_eq_true rfl)]
  simp(maxSteps:=4000000) only[go_sem,↓zj,↓reduceIte,d1]
  exact⟨⟨_,_,_,_,rfl,hs,hs⟩,zo.refl _⟩
 ·have d1:decide (e=0)=false:=decide_eq_false he
  obtain rfl:=hn he
  simp only[f54]
  rw[zb (Nat.le_of_ble_eq_true rfl)]
  simp(maxSteps:=4000000) only[go_sem,↓zj,↓reduceIte,d1]
  exact zo.refl _
theorem zoe:Holds prog G0 54 zo0:=zo3 zo6
theorem zog:Holds prog G0 7 zob:=by
 refine Holds.of_exC D7 func7 rfl zK (by kernel_rfl) (tab [(15,awkC),(16,zht),(22,zo9),(27,qY),(29,w7),(30,yf),(46,ziK),(47,zii),(48,zof),(49,yb),(50,yd 116),(51,znY),(52,znX),(53,zdH),(54,zo0)]) (zk ⟨zmb,zjj,zoa,zjk,kJ,jI,zlS,zlN,zfa,zeX,zak,rElig_ok,rLate_ok,zgt,zoe,trivial⟩) zw fun k0 rl args hpu hpre=>?_
 unfold zob at hpre ⊢
 obtain⟨l,d,s,rfl,⟨hl,hE⟩,hs⟩:=hpre
 cases s1:jE l 24 with
 | false =>
   simp only[f7]
   rw[zb (Nat.le_of_ble_eq_true rfl)]
   simp(maxSteps:=4000000) only[go_sem,↓zj,↓reduceIte,zf,s1]
   exact⟨⟨l,24,rfl,hl,hE⟩,zo.refl _⟩
 | true =>
   have hn:=zj3 (n:=24) s1
   have hm1:l.length≤1000000:=by omega
   have hB:=zj4 s1 hE
   by_cases h40:40 < s.length
   ·have d40:decide ((40:Int) < (s.length:Int))=true:=decide_eq_true (by omega)
    simp only[f7]
    rw[zb (Nat.le_of_ble_eq_true rfl)]
    simp(maxSteps:=4000000) only[go_sem,↓zj,↓reduceIte,zf,s1,d40]
    exact⟨⟨l,24,rfl,hl,hE⟩,zo.refl _⟩
   ·have d40:decide ((40:Int) < (s.length:Int))=false:=decide_eq_false (by omega)
    have hok:=(yS (lv:=levelE) l).1
    rcases znO l with⟨w,hr,hw⟩ | ⟨w,hr,hw⟩
    ·obtain⟨r,hr0⟩:∃ r,r=(replayed levelE l).1.now:=⟨_,rfl⟩
     have hrl:RL r:=(hr0 ▸ hok.good:Off.Good r).rl
     have hla:LastOk r:=(hr0 ▸ hok.good:Off.Good r).last
     have huq:UqR r:=hr0 ▸ znE l
     have hco:CoB r:=hr0 ▸ zeP l
     have han:AnB r:=hr0 ▸ zoc l
     have hhe:HeB r:=hr0 ▸ zeO l
     have x1:zmV l=(r.eligible,0):=by unfold zmV;rw[if_neg (fun q=>q w),hr0]
     obtain⟨g,hg⟩:∃ g,g=rng d 0 999999999:=⟨_,rfl⟩
     have f1:zv [0,g]=g:=by
      rw[wT,if_neg (fun q=>q rfl),wT]
      by_cases q:g=0
      ·rw[if_neg (fun k=>k q),q];rfl
      ·rw[if_pos q]
     have a116:jC l 116 s=err (!decide (s∈r.namesOf 116)) 10:=by unfold jC;rw[if_neg (fun q=>q w),hr0]
     have hle:r.eligible.length≤1000000:=Nat.le_trans (List.length_filter_le _ _) (hrl.names 104)
     have hll:(r.lateL d).length≤1000000:=by unfold Reg.lateL;rw[List.length_map];exact Nat.le_trans (List.length_filter_le _ _) hrl.complaints
     rw[← hr0] at hr
     by_cases hg0:g=0
     ·have hgr:rng d 0 999999999=0:=by rw[← hg];exact hg0
      have f2:zv [0,0]=0:=rfl
      have x3:zfr l d=(r.lateL d,0):=by unfold zfr;rw[w,hgr,if_neg (fun q=>q rfl),hr0]
      by_cases hm:s∈r.namesOf 116
      ·have ha:jC l 116 s=0:=by rw[a116,decide_eq_true hm];rfl
       have hi2:zd5 (r.namesOf 116) s=((zO (r.namesOf 116) s:Nat):Int):=yz hm
       obtain⟨p,hp⟩:∃ p,p=zO (r.namesOf 116) s:=⟨_,rfl⟩
       rw[← hp] at hi2
       have dneg:decide ((p:Int) < 0)=false:=decide_eq_false (by omega)
       have f0:zv [0,err false 10]=0:=rfl
       have x4:zod l s=((((r.matched s).length:Nat):Int),zaX (r.matched s),0):=by unfold zod;rw[if_neg (fun q=>q ha),hr0]
       simp only[f7]
       rw[zb (Nat.le_of_ble_eq_true rfl)]
       simp(maxSteps:=4000000) only[go_sem,↓zj,↓reduceIte,zf,s1,d40,hr,hw,hi2,dneg,f0,hgr,f2,x1,x3,x4]
       (repeat' apply And.intro)
       all_goals first
        | exact⟨l,24,rfl,hl,hE⟩
        | exact⟨l,rfl,hm1,hB⟩
        | exact⟨l,s,rfl,hm1,hB⟩
        | exact⟨l,d,rfl,hm1,hB⟩
        | exact zo.refl _
        | exact⟨_,s,rfl,hrl⟩
        | exact⟨r,rfl,hrl,hla,huq⟩
        | exact⟨r,d,rfl,hrl,hco,han⟩
        | exact⟨r,s,rfl,hrl,hhe⟩
        | exact⟨r.eligible,0,zg r.eligible,rfl,.inl rfl,fun h=>absurd rfl h,hle⟩
        | exact⟨r.lateL d,0,zg (r.lateL d),rfl,.inl rfl,fun h=>absurd rfl h,hll⟩
        | exact⟨[],_,.nils,rfl,.inr ⟨rfl,rfl⟩,fun _=>rfl,by decide⟩
        | done
      ·have ha:jC l 116 s=10:=by rw[a116,decide_eq_false hm];rfl
       have hi2:zd5 (r.namesOf 116) s=-1:=if_neg hm
       have dneg:decide ((-1:Int) < 0)=true:=rfl
       have f0:zv [0,err true 10]=10:=rfl
       have x4:zod l s=(0,0,10):=by unfold zod;rw[ha];rfl
       simp only[f7]
       rw[zb (Nat.le_of_ble_eq_true rfl)]
       simp(maxSteps:=4000000) only[go_sem,↓zj,↓reduceIte,zf,s1,d40,hr,hw,hi2,dneg,f0,hgr,f2,x1,x3,x4]
       (repeat' apply And.intro)
       all_goals first
        | exact⟨l,24,rfl,hl,hE⟩
        | exact⟨l,rfl,hm1,hB⟩
        | exact⟨l,s,rfl,hm1,hB⟩
        | exact⟨l,d,rfl,hm1,hB⟩
        | exact zo.refl _
        | exact⟨_,s,rfl,hrl⟩
        | exact⟨r,rfl,hrl,hla,huq⟩
        | exact⟨r,d,rfl,hrl,hco,han⟩
        | exact⟨r,s,rfl,hrl,hhe⟩
        | exact⟨r.eligible,0,zg r.eligible,rfl,.inl rfl,fun h=>absurd rfl h,hle⟩
        | exact⟨r.lateL d,0,zg (r.lateL d),rfl,.inl rfl,fun h=>absurd rfl h,hll⟩
        | exact⟨[],_,.nils,rfl,.inr ⟨rfl,rfl⟩,fun _=>rfl,by decide⟩
        | done
     ·have hgr:rng d 0 999999999=g:=hg.symm
      have dg:decide (g=0)=false:=decide_eq_false hg0
      have x3:zfr l d=([],g):=by unfold zfr;rw[w,hgr,f1,if_pos hg0]
      by_cases hm:s∈r.namesOf 116
      ·have ha:jC l 116 s=0:=by rw[a116,decide_eq_true hm];rfl
       have hi2:zd5 (r.namesOf 116) s=((zO (r.namesOf 116) s:Nat):Int):=yz hm
       obtain⟨p,hp⟩:∃ p,p=zO (r.namesOf 116) s:=⟨_,rfl⟩
       rw[← hp] at hi2
       have dneg:decide ((p:Int) < 0)=false:=decide_eq_false (by omega)
       have f0:zv [0,err false 10]=0:=rfl
       have x4:zod l s=((((r.matched s).length:Nat):Int),zaX (r.matched s),0):=by unfold zod;rw[if_neg (fun q=>q ha),hr0]
       simp only[f7]
       rw[zb (Nat.le_of_ble_eq_true rfl)]
       simp(maxSteps:=4000000) only[go_sem,↓zj,↓reduceIte,zf,s1,d40,hr,hw,hi2,dneg,f0,hgr,f1,dg,x1,x3,x4]
       (repeat' apply And.intro)
       all_goals first
        | exact⟨l,24,rfl,hl,hE⟩
        | exact⟨l,rfl,hm1,hB⟩
        | exact⟨l,s,rfl,hm1,hB⟩
        | exact⟨l,d,rfl,hm1,hB⟩
        | exact zo.refl _
        | exact⟨_,s,rfl,hrl⟩
        | exact⟨r,rfl,hrl,hla,huq⟩
        | exact⟨r,d,rfl,hrl,hco,han⟩
        | exact⟨r,s,rfl,hrl,hhe⟩
        | exact⟨r.eligible,0,zg r.eligible,rfl,.inl rfl,fun h=>absurd rfl h,hle⟩
        | exact⟨r.lateL d,0,zg (r.lateL d),rfl,.inl rfl,fun h=>absurd rfl h,hll⟩
        | exact⟨[],_,.nils,rfl,.inr ⟨rfl,rfl⟩,fun _=>rfl,by decide⟩
        | done
      ·have ha:jC l 116 s=10:=by rw[a116,decide_eq_false hm];rfl
       have hi2:zd5 (r.namesOf 116) s=-1:=if_neg hm
       have dneg:decide ((-1:Int) < 0)=true:=rfl
       have f0:zv [0,err true 10]=10:=rfl
       have x4:zod l s=(0,0,10):=by unfold zod;rw[ha];rfl
       simp only[f7]
       rw[zb (Nat.le_of_ble_eq_true rfl)]
       simp(maxSteps:=4000000) only[go_sem,↓zj,↓reduceIte,zf,s1,d40,hr,hw,hi2,dneg,f0,hgr,f1,dg,x1,x3,x4]
       (repeat' apply And.intro)
       all_goals first
        | exact⟨l,24,rfl,hl,hE⟩
        | exact⟨l,rfl,hm1,hB⟩
        | exact⟨l,s,rfl,hm1,hB⟩
        | exact⟨l,d,rfl,hm1,hB⟩
        | exact zo.refl _
        | exact⟨_,s,rfl,hrl⟩
        | exact⟨r,rfl,hrl,hla,huq⟩
        | exact⟨r,d,rfl,hrl,hco,han⟩
        | exact⟨r,s,rfl,hrl,hhe⟩
        | exact⟨r.eligible,0,zg r.eligible,rfl,.inl rfl,fun h=>absurd rfl h,hle⟩
        | exact⟨r.lateL d,0,zg (r.lateL d),rfl,.inl rfl,fun h=>absurd rfl h,hll⟩
        | exact⟨[],_,.nils,rfl,.inr ⟨rfl,rfl⟩,fun _=>rfl,by decide⟩
        | done
    ·obtain⟨z,hz⟩:∃ z,z=(replayed levelE l).2.2:=⟨_,rfl⟩
     have x1:zmV l=([],z):=by unfold zmV;rw[if_pos w,hz]
     have ha:jC l 116 s=z:=by unfold jC;rw[if_pos w,hz]
     have x2:∀ g,zv [z,g]=z:=fun g=>by rw[wT,if_pos (by rw[hz];exact w)]
     have x3:zfr l d=([],z):=by unfold zfr;rw[← hz,x2,if_pos (by rw[hz];exact w)]
     have x4:zod l s=(0,0,z):=by unfold zod;rw[ha,if_pos (by rw[hz];exact w)]
     rw[← hz] at w hw
     have dz:decide (z=0)=false:=decide_eq_false w
     have hi2:zd5 (Reg.namesOf {} 116) s=-1:=rfl
     have dneg:decide ((-1:Int) < 0)=true:=rfl
     have hrl:RL ({}:Reg):=⟨by decide,by decide,by decide,by decide,by decide,by decide⟩
     simp only[f7]
     rw[zb (Nat.le_of_ble_eq_true rfl)]
     simp(maxSteps:=4000000) only[go_sem,↓zj,↓reduceIte,zf,s1,d40,hr,hw,hi2,dneg,dz,x1,x2,x3,x4]
     (repeat' apply And.intro)
     all_goals first
      | exact⟨l,24,rfl,hl,hE⟩
      | exact⟨l,rfl,hm1,hB⟩
      | exact⟨l,s,rfl,hm1,hB⟩
      | exact⟨l,d,rfl,hm1,hB⟩
      | exact zo.refl _
      | exact⟨_,s,rfl,hrl⟩
      | exact⟨[],_,.nils,rfl,.inr ⟨rfl,rfl⟩,fun _=>rfl,by decide⟩
      | done
end Go.Fly.Tryz
end
section
set_option maxRecDepth 100000
namespace Go.Proofs.YtkfbgillhhhdgaaGreatDoor
open Go Go.ChangeShapes Go.WideShapes Go.RowKit Go.Fly Go.Fly.Off Go.Fly.Tryz Off
theorem read3:Tryz.prog.readableRec 3=true:=by kernel_rfl
theorem row3:3 < Tryz.prog.types.size:=of_decide_eq_true (by kernel_rfl)
theorem read9:Tryz.prog.readableRec 9=true:=by kernel_rfl
theorem row9:9 < Tryz.prog.types.size:=of_decide_eq_true (by kernel_rfl)
theorem read22:Tryz.prog.readableRec 22=true:=by kernel_rfl
theorem row22:22 < Tryz.prog.types.size:=of_decide_eq_true (by kernel_rfl)
theorem lifted (os:Os)(started:os.Started)(H:Type)(enc:TypeId×Value→H) :
 ReturnsInHanded {} Tryz.checked os 7 .any (fun w args=>(Rows.officeViewsSpec.pre enc Tryz.prog Tryz.f7 [] false w args∧laidMetH Tryz.prog zgQ w)∧sizedMet enc Tryz.prog Tryz.f7 (OpenSpec.ofChange Rows.officeViewsSpec) false w args)
  (Rows.officeViewsSpec.post enc Tryz.prog Tryz.f7 false true false false):=by
 refine returnsInHanded_of_change_and (C:=Tryz.checked) (X:=fun w _=>laidMetH Tryz.prog zgQ w) (fun _ _ _ hh h=>h.of_heap hh) own started (by kernel_rfl) Tryz.func7
  (ChangeSpec.witness_shaped (enc:=enc) (C:=Tryz.checked) (os:=os) (X:=fun w _=>laidMetH Tryz.prog zgQ w) false (World.laidAll Tryz.prog os zgQ)
   #[.slice none 0 0,.int .i64 0,.string ⟨#[]⟩] 8 (World.laidAll_os _ _ _) (World.shaped_of_ZipB (by kernel_rfl) (by kernel_rfl)) (by kernel_rfl) (by kernel_rfl) (by kernel_rfl) (laid_met os _)) ?_
 intro W base args ds gs before hval0 hW _ _ hL _
 have hval:∀ (j:Nat) t v,Tryz.f7.params[j]?=some t→args[j]?=some v→Value.okWide Tryz.prog W .any base t v:=hval0
 have hW':=hW
 obtain⟨p,q,hA0,hV,rfl,hfz,hnd⟩:=hW
 have hA:DataW.TrodAll enc Tryz.prog W 0 (fun _=>true) true Tryz.f7.params.toList args.toList ds p:=hA0
 have hplt:=hA.lt
 rw[Tryz.params7] at hA hval
 obtain⟨v0,v1,v2,d0,d1,d2,p0,p1,p2,hargs,rfl,rfl,h0,h1,h2⟩:=trodAll_three hA
 subst hargs
 obtain⟨rfl,rfl⟩:=trodVars_none hV
 obtain⟨a0,s0,u0,r0⟩:=sl_arg Tryz.underlying22 (rEvs W) (hval 0 22 v0 rfl rfl) h0
 obtain⟨l0,hl0,he0,ha0⟩:=s0
 obtain⟨rfl⟩:a0=zf 5 encEv l0:=by simpa using ha0
 obtain⟨m1,rfl,e11,e21,hwf1⟩:=open_int Tryz.underlying3 (hval 1 3 v1 rfl rfl) h1
 obtain⟨z2,rfl,e12,e22,hwf2⟩:=ChangeMaps.open_string Tryz.underlying9 (hval 2 9 v2 rfl rfl) h2
 clear hA0 hval0
 have key:=zog (0,0) [zf 5 encEv l0,.int .i64 m1,.str z2.data.toList] W (fun _=>False) #[v0,.int .i64 m1,.string z2] (fun _ h=>h.elim) (zjQ hL)
  (fun a ha=>by
   simp only[List.mem_cons,List.not_mem_nil,or_false] at ha
   rcases ha with rfl | rfl | rfl
   ·exact u0
   ·exact .int _ _
   ·exact .str _)
  ⟨rfl,fun j v hv=>by
   match j,hv with
   | 0,hv=>cases hv;exact r0
   | 1,hv=>cases hv;exact .int _ _
   | 2,hv=>cases hv;exact str_of _
   | j+3,hv=>simp at hv⟩
  ⟨l0,m1,z2.data.toList,rfl,⟨hl0,fun x hx=>(he0 x hx).len⟩,Nat.le_trans (by simpa using hwf2) (show maxLen≤9223372036854775807 by decide)⟩
 refine key.mono fun e W' ⟨rv,B,he,hst,_,hr⟩=>?_
 have hr:R _ (.bool true) rv:=hr
 obtain rfl:=hr.bool_inv
 have hno:∀ b,¬ (yN W fun _=>False).owned b:=fun b ⟨l,o,c,h,_⟩=>by cases h
 have hb:Below W.heap.size W W':=⟨hst.os,hst.tape,hst.output,hst.size,fun k hk=>hst.keep k hk (hno k)⟩
 have lt0:∀ x∈p0,x.block < W.heap.size:=fun x hx=>hplt x (by simp[hx])
 have lt1:∀ x∈p1,x.block < W.heap.size:=fun x hx=>hplt x (by simp[hx])
 have lt2:∀ x∈p2,x.block < W.heap.size:=fun x hx=>hplt x (by simp[hx])
 refine⟨_,he,[d0,d1,d2],[],_,[],p0++(p1++p2),[],hW',?_,?_,?_,hb.frame _,fun h=>by cases h⟩
 ·exact trodAll_mk1 (shut_bool Tryz.underlying4 true)
 ·exact trodAll_mk3 (hb.trod zm8 read22 row22 h0 lt0) (hb.trod zm8 read3 row3 h1 lt1) (hb.trod zm8 read9 row9 h2 lt2)
 ·exact rfl
theorem e_place:(Rows.officeViewsRow.inPlace == Tryz.checked.prog.inPlace 7)=true:=by kernel_rfl
theorem e_unf:(Rows.officeViewsRow.unfollowed == Tryz.checked.prog.unfollowed 7)=true:=by kernel_rfl
theorem e_rec:(Rows.officeViewsRow.recurses == Tryz.checked.prog.recurses 7)=true:=by kernel_rfl
theorem e_named:(Rows.officeViewsRow.named == Tryz.checked.prog.varsNamed 7)=true:=by kernel_rfl
theorem e_lift:(Rows.officeViewsRow.lifted == Tryz.checked.prog.liftsFinal)=true:=by kernel_rfl
theorem e_make:(Tryz.checked.prog.make == some Rows.officeViewsRow.make)=true:=by kernel_rfl
theorem e_keys:(Rows.officeViewsRow.plainKeys == Tryz.checked.prog.plainKeys)=true:=by kernel_rfl
theorem e_goes:false=Rows.officeViewsRow.goesBy Tryz.checked.prog:=by kernel_rfl
theorem e_wf:Rows.officeViewsRow.wfByText (OpenSpec.ofChange Rows.officeViewsSpec)=true:=by kernel_rfl
theorem e_func:Tryz.checked.prog.funcNamed Rows.officeViewsRow.func=some 7:=by kernel_rfl
theorem e_wrap:Tryz.f7.isWrapper Tryz.checked.prog Rows.officeViewsRow.wrapper Rows.officeViewsRow.mainSum:=by
 unfold Func.isWrapper;rw[if_neg (of_decide_eq_false (by kernel_rfl))];exact⟨rfl,rfl⟩
theorem closed:joinedFacts Tryz.checked.prog 7 Tryz.f7 Rows.officeViewsSpec Rows.officeViewsRow=true:=by
 unfold joinedFacts
 simp only[Bool.and_eq_true,zmg,k_maps,k_enter,k_heard,e_place,e_unf,e_rec,e_named,e_lift,e_make,e_keys,and_true,true_and]
 (repeat' apply And.intro) <;> kernel_rfl
theorem said:Rows.OfficeViewsSaid :=
 OpenClaim.holds_of_wide 7 Tryz.f7 rfl rfl rfl rfl rfl rfl rfl ⟨rfl,rfl,rfl,rfl,rfl⟩ rfl rfl rfl rfl rfl e_func Tryz.func7 closed
  (of_decide_eq_true (by kernel_rfl)) e_wrap
  (fun os started H enc _=>lifted os started H enc)
theorem card_holds:Rows.OfficeViewsCardSaid :=
 Claim7.holds_tied_plain_at .later [] [.data,.data,.data,.data,.data,.widerDeep,.pinned] true (true, "955b595cc5385ef7a002e46dd68bcc84f6d549330109667ecef86e1e8b51a6b5") false
  said (fun _ h=>by cases h) e_wf (fun _ h=>by cases h) officeViews_row_tie rfl ⟨rfl,rfl⟩ k_main rfl
  (fun f fn hf hfn=>by
   obtain rfl:f=7:=Option.some.inj ((show Tryz.prog.funcNamed "flyover/flyoverlaw10.OfficeViews" = some 7 from e_func).symm.trans hf) |>.symm
   obtain rfl:fn=Tryz.f7:=(Option.some.inj (Tryz.func7.symm.trans hfn)).symm
   exact⟨k_looks,fun j t ht=>by
    rw[Tryz.params7] at ht
    have hm:t∈[22,3,9]:=by simpa using Array.mem_of_getElem? ht
    have hall:([22,3,9].all fun u=>!Tryz.prog.wantsStandIn u)=true:=by kernel_rfl
    exact(show Tryz.prog.wantsStandIn t=false by simpa using List.all_eq_true.1 hall t hm)⟩)
  e_goes
#print axioms card_holds
end Go.Proofs.YtkfbgillhhhdgaaGreatDoor
end
