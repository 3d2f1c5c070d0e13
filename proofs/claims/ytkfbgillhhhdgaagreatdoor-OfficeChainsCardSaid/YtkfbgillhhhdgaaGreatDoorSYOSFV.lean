/- Part of a proof. No conditions. -/
import Derived.Test.YtkfbgillhhhdgaaGreatDoorSYORV
import Derived.Test.YtkfbgillhhhdgaaGreatDoorSYORM
import Derived.Test.YtkfbgillhhhdgaaGreatDoorBB
import Derived.Test.YtkfbgillhhhdgaaGreatDoorSYORO
import Derived.Test.YtkfbgillhhhdgaaGreatDoorSYORB
import Derived.Test.YtkfbgillhhhdgaaGreatDoorSYORJ
import Derived.Test.YtkfbgillhhhdgaaGreatDoorSYOSU
import Derived.Test.YtkfbgillhhhdgaaGreatDoorCards
import Derived.Test.YtkfbgillhhhdgaaGreatDoorTie
set_option linter.unusedSimpArgs false
set_option linter.unusedVariables false
section
set_option maxRecDepth 100000
set_option maxHeartbeats 1000000
namespace Go.Fly.Tryz
open Go Off
end Go.Fly.Tryz
end
section
set_option maxRecDepth 100000
set_option maxHeartbeats 1000000
namespace Go.Fly.Tryz
open Go Off Go.Proofs.Tryz
theorem znW:Holds prog G0 38 zin:=by
 refine Holds.of_exC D38 func38 rfl zK (by kernel_rfl) (tab []) (zk trivial) zw fun k0 rl args hpu hpre=>?_
 unfold zin at hpre ⊢
 obtain⟨n,a,rfl,ha⟩:=hpre
 simp only[zE]
 have hpa:=ha.pu
 have hn1:=ha.1
 simp only[f38]
 rw[zb (Nat.le_of_ble_eq_true rfl)]
 simp(maxSteps:=4000000) only[go_sem,↓zj,hpa]
 refine zB.ents (wu.nilArr (d:=3) (l:=(4,1000)) 2 (fun _=>[]) rfl rfl rfl) ?_
 simp(maxSteps:=400000) only[go_sem,↓zj]
 refine zB.loopF (β:=Nat) [(3,3),(5,5),(8,16)] (fun i=>[(3,.msl (4,1000) 0 i),(8,.int .i64 i)]) (fun i=>updH (fun _=>none) (4,1000) (.arr i 2 fun j=>wS (w6 (a j)))) (fun i=>i≤n) (fun i=>n - i) 0 (Nat.zero_le _) ?_ (zy.same ⟨rfl,rfl,fun i hi=>absurd hi (Nat.not_lt_zero i)⟩) ?_
 ·simp(maxSteps:=400000) only[go_sem,↓zj]
  try exact rfl
 ·intro c i hck hi
  have hi:i≤n:=hi
  generalize hq0:exC _ _ _ _ _=gg
  by_cases hlt:i < n
  ·have hd:decide ((i:Int) < (n:Int))=true:=decide_eq_true (by omega)
   have hga:=ha.2 i hlt
   generalize hx:w6 (a i)=x at hga
   obtain⟨x1,x2⟩:=x
   rw[← hq0]
   clear hq0
   simp(maxSteps:=400000) only[go_sem,↓zj,hd,hga,wS]
   exact⟨⟨by omega,by omega⟩,⟨by omega,by omega,wG rfl (vM (x1,x2))⟩,zn (by omega) (by omega),i+1,hlt,by omega,⟨rfl,rfl⟩,zy.arr1 (zd _ _ _) rfl rfl fun j hj=>snoc (f:=fun j=>wS (w6 (a j))) rfl (by show wS (w6 (a i))=_;rw[hx];rfl) hj⟩
  ·have hd:decide ((i:Int) < (n:Int))=false:=decide_eq_false (by omega)
   obtain rfl:i=n:=by omega
   rw[← hq0]
   clear hq0
   simp(maxSteps:=400000) only[go_sem,↓zj,hd]
   rw[if_pos (Nat.zero_add _)]
   rw[show (fun k=>yA (frz 4 (updH (fun _=>none) (4,1000) (.arr i 2 fun j=>wS (w6 (a j))))) (wS (w6 (a (0+k)))))=fun k=>wS (w6 (a k)) from funext fun k=>by rw[ww (vM _).pu,Nat.zero_add]]
   exact znS i a
theorem znV:Holds prog G0 39 znQ:=by
 refine Holds.of_exC D39 func39 rfl zK (by kernel_rfl) (tab [(30,yf),(31,kI),(34,zdC),(109,zbc),(zm 4,zG)]) (zk ⟨jI,zlc,zl5,znT,za,trivial⟩) zw fun k0 rl args hpu hpre=>?_
 unfold znQ at hpre ⊢
 obtain⟨r,i0,c,lv,rfl,hi0,hco,hcn⟩:=hpre
 simp only[zE,zV,zb3,znr,zq,zN,wv,km]
 have hti:((i0:Int)).toNat=i0:=by omega
 rw[hti]
 have h64:=hco.many
 have hrn:(r.chain (el r.houses i0).share).length≤64:=by unfold Reg.chain;rw[List.length_map];exact h64
 have hits:=zil hco
 obtain⟨right,hr⟩:∃ right,right=r.chain (el r.houses i0).share:=⟨_,rfl⟩
 have hres:znR r (el r.houses i0) c lv=(match zaW c right 0 (max c.length right.length) with
  | some i=>(i,19)
  | none=>(right.length,err (!decide (levelE (zbu right)=lv)) 24)):=by rw[hr];rfl
 rw[hres]
 rw[← hr] at hrn hits
 have hcl:zf 2 wS c=.sl c.length 2 fun i=>wS (el c i):=rfl
 have hrl:zf 2 wS right=.sl right.length 2 fun i=>wS (el right i):=rfl
 obtain⟨M,hM⟩:∃ M,M=max c.length right.length:=⟨_,rfl⟩
 rw[← hM]
 have hM1:c.length≤M:=by omega
 have hM2:right.length≤M:=by omega
 have hM3:M≤1000064:=by omega
 have hMc:∀ i:Nat,i < M↔i < right.length∨i < c.length:=fun i=>by omega
 have hr':r.chain (el r.houses i0).share=right:=hr.symm
 simp only[f39]
 rw[zb (Nat.le_of_ble_eq_true rfl)]
 simp(maxSteps:=4000000) only[go_sem,↓zj,↓reduceIte,hcl,hti,hr',hrl]
 refine⟨⟨r,i0,rfl,hi0,hco⟩,?_⟩
 refine zB.loopF (β:=Nat) [(8,9),(11,11),(15,48)] (fun i=>[(11,.int .i64 i)]) (fun _=>fun _=>none) (fun i=>i≤M∧zaW c right 0 M=zaW c right i (M - i)) (fun i=>M - i) 0 ⟨Nat.zero_le _,rfl⟩ ?_ zy.none ?_
 ·simp(maxSteps:=400000) only[go_sem,↓zj]
  try exact rfl
 ·intro ck i hck hI
  obtain⟨hi,hf⟩:=hI
  have hi:i≤M:=hi
  generalize hq0:exC _ _ _ _ _=gg
  by_cases hlt:i < M
  ·have hst:zaW c right i (M - i)=if c.length≤i∨right.length≤i∨el c i≠el right i then some i else zaW c right (i+1) (M - (i+1)):=by
    obtain⟨k,hk⟩:∃ k,M - i=k+1:=⟨M - i - 1,by omega⟩
    rw[hk,show M - (i+1)=k by omega]
    rfl
   rw[hst] at hf
   by_cases h1:i < right.length
   ·have e1:decide ((i:Int) < (right.length:Int))=true:=decide_eq_true (by omega)
    have e1':decide ((right.length:Int)≤(i:Int))=false:=decide_eq_false (by omega)
    by_cases h2:i < c.length
    ·have e2:decide ((i:Int) < (c.length:Int))=true:=decide_eq_true (by omega)
     have e2':decide ((c.length:Int)≤(i:Int))=false:=decide_eq_false (by omega)
     generalize hx:el right i=x at hf
     generalize hy:el c i=y at hf
     obtain⟨x1,x2⟩:=x
     obtain⟨y1,y2⟩:=y
     cases hb:(decide (x1=y1) && decide (x2=y2)) with
     | true =>
       rw[Bool.and_eq_true,decide_eq_true_eq,decide_eq_true_eq] at hb
       obtain⟨rfl,rfl⟩:=hb
       rw[if_neg (fun q=>by rcases q with q | q | q;omega;omega;exact q rfl)] at hf
       rw[← hq0]
       clear hq0
       simp(maxSteps:=400000) only[go_sem,↓zj,↓reduceIte,e1,e1',e2,e2',hcl,hrl,hx,hy,wS]
       exact⟨⟨by omega,by omega⟩,⟨by omega,by omega⟩,zn (by omega) (by omega),by omega,i+1,⟨hlt,hf⟩,by omega,rfl,zy.none⟩
     | false =>
       have hne:¬ ((y1,y2):It)=(x1,x2):=fun q=>by cases q;simp at hb
       rw[if_pos (.inr (.inr hne))] at hf
       rw[← hq0]
       clear hq0
       simp(maxSteps:=400000) only[go_sem,↓zj,↓reduceIte,e1,e1',e2,e2',hcl,hrl,hx,hy,wS,hb]
       rw[hf]
       exact⟨⟨by omega,by omega⟩,⟨by omega,by omega⟩,zo.refl _⟩
    ·have e2:decide ((i:Int) < (c.length:Int))=false:=decide_eq_false (by omega)
     have e2':decide ((c.length:Int)≤(i:Int))=true:=decide_eq_true (by omega)
     rw[if_pos (.inl (by omega))] at hf
     rw[← hq0]
     clear hq0
     simp(maxSteps:=400000) only[go_sem,↓zj,↓reduceIte,e1,e1',e2,e2',hcl,hrl]
     rw[hf]
     exact zo.refl _
   ·have e1:decide ((i:Int) < (right.length:Int))=false:=decide_eq_false (by omega)
    have e1':decide ((right.length:Int)≤(i:Int))=true:=decide_eq_true (by omega)
    have e2:decide ((i:Int) < (c.length:Int))=true:=decide_eq_true (by omega)
    rw[if_pos (.inr (.inl (by omega)))] at hf
    rw[← hq0]
    clear hq0
    simp(maxSteps:=400000) only[go_sem,↓zj,↓reduceIte,e1,e1',e2,hcl,hrl]
    rw[hf]
    exact zo.refl _
  ·obtain rfl:i=M:=by omega
   have e1:decide ((i:Int) < (right.length:Int))=false:=decide_eq_false (by omega)
   have e2:decide ((i:Int) < (c.length:Int))=false:=decide_eq_false (by omega)
   rw[Nat.sub_self] at hf
   have hf:zaW c right 0 i=none:=hf
   rw[← hq0]
   clear hq0
   simp(maxSteps:=400000) only[go_sem,↓zj,↓reduceIte,e1,e2,hcl,hrl]
   rw[hf]
   have hcm:decide (lv=levelE (zbu right))=decide (levelE (zbu right)=lv):=decide_eq_decide.2 eq_comm
   rw[hcm]
   exact⟨⟨right,rfl,hits⟩,⟨_,rfl⟩,zo.refl _⟩
end Go.Fly.Tryz
end
section
set_option maxRecDepth 100000
set_option maxHeartbeats 1000000
namespace Go.Fly.Tryz
open Go Off
end Go.Fly.Tryz
end
section
set_option maxRecDepth 100000
set_option maxHeartbeats 1000000
namespace Go.Fly.Tryz
open Go Off Go.Proofs.Tryz
theorem znU:Holds prog G0 5 z1:=by
 refine Holds.of_exC D5 func5 rfl zK (by kernel_rfl) (tab [(15,awkC),(16,zht),(22,zo9),(27,qY),(28,yd 104),(29,w7),(30,yf),(37,zeh),(38,zin),(39,znQ),(zm 3,zG)]) (zk ⟨zmb,zjj,zoa,zjk,zbI,kJ,jI,zjx,znW,znV,za,trivial⟩) zw fun k0 rl args hpu hpre=>?_
 unfold z1 at hpre ⊢
 obtain⟨l,s,c,lv,rfl,⟨hl,hE⟩,hs,hc,hcs⟩:=hpre
 cases s1:jE l 24 with
 | false =>
   simp only[f5]
   rw[zb (Nat.le_of_ble_eq_true rfl)]
   simp(maxSteps:=4000000) only[go_sem,↓zj,↓reduceIte,zf,s1]
   exact⟨⟨l,24,rfl,hl,hE⟩,zo.refl _⟩
 | true =>
   have hn:=zj3 (n:=24) s1
   have hm1:l.length≤1000000:=by omega
   have hB:=zj4 s1 hE
   by_cases h40:40 < s.length
   ·have d40:decide ((40:Int) < (s.length:Int))=true:=decide_eq_true (by omega)
    simp only[f5]
    rw[zb (Nat.le_of_ble_eq_true rfl)]
    simp(maxSteps:=4000000) only[go_sem,↓zj,↓reduceIte,zf,s1,d40]
    exact⟨⟨l,24,rfl,hl,hE⟩,zo.refl _⟩
   ·have d40:decide ((40:Int) < (s.length:Int))=false:=decide_eq_false (by omega)
    by_cases h70:70 < c.length
    ·have d70:decide ((70:Int) < (c.length:Int))=true:=decide_eq_true (by omega)
     simp only[f5]
     rw[zb (Nat.le_of_ble_eq_true rfl)]
     simp(maxSteps:=4000000) only[go_sem,↓zj,↓reduceIte,zf,s1,d40,d70]
     exact⟨⟨l,24,rfl,hl,hE⟩,zo.refl _⟩
    ·have d70:decide ((70:Int) < (c.length:Int))=false:=decide_eq_false (by omega)
     simp only[f5]
     rw[zb (Nat.le_of_ble_eq_true rfl)]
     simp(maxSteps:=4000000) only[go_sem,↓zj,↓reduceIte,zf,s1,d40,d70]
     refine⟨⟨l,24,rfl,hl,hE⟩,zB.loopF (β:=Nat) [(4,4),(6,6),(37,46)] (fun i=>[(37,.int .i64 i)]) (fun _=>fun _=>none) (fun i=>i≤c.length∧∀ j,j < i→(el c j).1.length≤40) (fun i=>c.length - i) 0 ⟨Nat.zero_le _,fun j hj=>absurd hj (Nat.not_lt_zero _)⟩ ?_ zy.none ?_⟩
     ·simp(maxSteps:=400000) only[go_sem,↓zj]
      try exact rfl
     ·intro ck i hck hI
      obtain⟨hi,hf⟩:=hI
      have hi:i≤c.length:=hi
      generalize hq0:exC _ _ _ _ _=gg
      by_cases hlt:i < c.length
      ·have hd:decide ((i:Int) < (c.length:Int))=true:=decide_eq_true (by omega)
       have hcx:=hcs _ (wd hlt)
       by_cases e40:40 < (el c i).1.length
       ·have de:decide ((40:Int) < ((el c i).1.length:Int))=true:=decide_eq_true (by omega)
        rw[← hq0]
        clear hq0
        simp(maxSteps:=400000) only[go_sem,↓zj,↓reduceIte,hd,wS,de]
        exact⟨⟨by omega,by omega⟩,zo.refl _⟩
       ·have de:decide ((40:Int) < ((el c i).1.length:Int))=false:=decide_eq_false (by omega)
        rw[← hq0]
        clear hq0
        simp(maxSteps:=400000) only[go_sem,↓zj,↓reduceIte,hd,wS,de]
        refine⟨⟨by omega,by omega⟩,zn (by omega) (by omega),i+1,⟨hlt,fun j hj=>?_⟩,by omega,rfl,zy.none⟩
        by_cases e2:j=i
        ·subst e2;omega
        ·exact hf j (by omega)
      ·have hd:decide ((i:Int) < (c.length:Int))=false:=decide_eq_false (by omega)
       obtain rfl:i=c.length:=by omega
       rw[← hq0]
       clear hq0
       have hok:=(yS (lv:=levelE) l).1
       have hmc:c.length≤1000000:=by omega
       rcases znO l with⟨w,hr,hw⟩ | ⟨w,hr,hw⟩
       ·by_cases hm:s∈(replayed levelE l).1.now.namesOf 104
        ·have ha:jC l 104 s=0:=by unfold jC;rw[if_neg (fun q=>q w),decide_eq_true hm];rfl
         have hi2:zd5 ((replayed levelE l).1.now.namesOf 104) s=((zO ((replayed levelE l).1.now.namesOf 104) s:Nat):Int):=yz hm
         obtain⟨p,hp⟩:∃ p,p=zO ((replayed levelE l).1.now.namesOf 104) s:=⟨_,rfl⟩
         have hpl:p < (replayed levelE l).1.now.houses.length:=by rw[hp];exact zU (f:=Ho.name) hm
         rw[← hp] at hi2
         have dneg:decide ((p:Int) < 0)=false:=decide_eq_false (by omega)
         have f0:zv [0,err false 10]=0:=rfl
         have hho:(replayed levelE l).1.now.house s=el (replayed levelE l).1.now.houses p:=by rw[hp];rfl
         obtain⟨r,hr0⟩:∃ r,r=(replayed levelE l).1.now:=⟨_,rfl⟩
         have hch:ChainOk r (el r.houses p).share:=zjP (d:=r.day) (hr0 ▸ hok.good) (hr0 ▸ hpl)
         have hpn:((p:Nat):Int).toNat=p:=Int.toNat_natCast p
         have x1:jc l s c lv=znR r (el r.houses p) c lv:=by
          rw[← hr0] at hho;unfold jc znR;simp only[ha,hho,← hr0,ne_eq,not_true_eq_false,if_false]
          cases zaW c (r.chain (el r.houses p).share) 0 (max c.length (r.chain (el r.houses p).share).length) <;> rfl
         rw[← hr0] at hi2 hr hpl
         have hrl:RL r:=(hr0 ▸ hok.good:Off.Good r).rl
         simp(maxSteps:=400000) only[go_sem,↓zj,↓reduceIte,hd,hr,hw,hi2,dneg,f0,hpn,x1]
         (repeat' apply And.intro)
         all_goals first
          | exact⟨l,rfl,hm1,hB⟩
          | exact⟨_,_,rfl,zgT hmc⟩
          | exact⟨l,s,_,_,lv,rfl,hm1,hB,zgT hmc⟩
          | exact zo.refl _
          | exact⟨_,s,rfl,hrl⟩
          | exact⟨r,p,c,lv,rfl,hpl,hch,hmc⟩
          | done
        ·have ha:jC l 104 s=10:=by unfold jC;rw[if_neg (fun q=>q w),decide_eq_false hm];rfl
         have hi2:zd5 ((replayed levelE l).1.now.namesOf 104) s=-1:=if_neg hm
         have dneg:decide ((-1:Int) < 0)=true:=rfl
         have f0:zv [0,err true 10]=10:=rfl
         have hrl:RL (replayed levelE l).1.now:=hok.good.rl
         have x1:jc l s c lv=(0,10):=by unfold jc;rw[if_pos (by rw[ha];decide),ha]
         simp(maxSteps:=400000) only[go_sem,↓zj,↓reduceIte,hd,hr,hw,hi2,dneg,f0,x1]
         (repeat' apply And.intro)
         all_goals first
          | exact⟨l,rfl,hm1,hB⟩
          | exact⟨_,_,rfl,zgT hmc⟩
          | exact⟨l,s,_,_,lv,rfl,hm1,hB,zgT hmc⟩
          | exact zo.refl _
          | exact⟨_,s,rfl,hrl⟩
          | done
       ·have ha:jC l 104 s=(replayed levelE l).2.2:=by unfold jC;rw[if_pos w]
        have hi2:zd5 (Reg.namesOf {} 104) s=-1:=rfl
        have dneg:decide ((-1:Int) < 0)=true:=rfl
        obtain⟨z,hz⟩:∃ z,z=(replayed levelE l).2.2:=⟨_,rfl⟩
        rw[← hz] at w hw ha
        have f0:zv [z,err true 10]=z:=by rw[wT,if_pos w]
        have dz:decide (z=0)=false:=decide_eq_false w
        have hrl:RL ({}:Reg):=⟨by decide,by decide,by decide,by decide,by decide,by decide⟩
        have x1:jc l s c lv=(0,z):=by unfold jc;rw[if_pos (by rw[ha];exact w),ha]
        simp(maxSteps:=400000) only[go_sem,↓zj,↓reduceIte,hd,hr,hw,hi2,dneg,f0,dz,x1]
        (repeat' apply And.intro)
        all_goals first
         | exact⟨l,rfl,hm1,hB⟩
         | exact⟨_,_,rfl,zgT hmc⟩
         | exact⟨l,s,_,_,lv,rfl,hm1,hB,zgT hmc⟩
         | exact zo.refl _
         | exact⟨_,s,rfl,hrl⟩
         | done
end Go.Fly.Tryz
end
section
set_option maxRecDepth 100000
namespace Go.Fly.Tryz
open Go Go.ChangeShapes Go.WideShapes Go.RowKit Off Go.Proofs.Tryz
theorem c56:prog.cellsOf 56=1:=by kernel_rfl
theorem c64:prog.cellsOf 64=3:=by kernel_rfl
theorem c66:prog.cellsOf 66=2:=by kernel_rfl
def ItGo (x:It):Prop:=x.1.length≤9223372036854775807∧inK .i64 x.2
def SIt:List V→Prop:=fun g=>∃ x:It,ItGo x∧g=wS x
def SIts:List V→Prop:=fun g=>∃ l:List It,l.length≤9223372036854775807∧(∀ x∈l,ItGo x)∧g=[zf 2 wS l]
def SProof:List V→Prop:=fun g=>∃ (s:Str) (c:List It) (v:Int),s.length≤9223372036854775807∧c.length≤9223372036854775807∧(∀ x∈c,ItGo x)∧inK .i64 v∧g=[.str s,zf 2 wS c,.int .i64 v]
theorem rIt (W:World):vg prog W 66 2 SIt :=
 Off.vg.mono (zeQ [(9,1,SS),(3,1,SI)] underlying66 c66 ⟨rS W,rI W,trivial⟩ fun tr cs h=>by
  have h0:tr 9 ((cs.drop 0).take (prog.cellsOf 9)):=h 0 _ rfl
  have h1:tr 3 ((cs.drop 1).take (prog.cellsOf 3)):=h 1 _ rfl
  rw[c3] at h1
  rw[c9] at h0
  exact⟨h0,h1,trivial⟩) fun g h=>by
  obtain⟨_,_,⟨s,hs,rfl⟩,⟨_,_,⟨n,hn,rfl⟩,rfl,rfl⟩,rfl⟩:=h
  exact⟨(s,n),⟨hs,hn⟩,rfl⟩
theorem rIts (W:World):vg prog W 56 1 SIts :=
 Off.vg.mono (zaj (f:=wS) (Q:=ItGo) underlying56 c66 (by decide) (rIt W) (fun g ⟨s,h,e⟩=>⟨s,h,e⟩) fun x v hv=>by
  rcases List.mem_cons.1 hv with rfl | hv
  ·exact .str _
  ·rw[List.mem_singleton.1 hv];exact .int _ _) fun g h=>h
theorem rProof (W:World):vg prog W 64 3 SProof :=
 Off.vg.mono (zeQ [(9,1,SS),(56,1,SIts),(3,1,SI)] underlying64 c64 ⟨rS W,rIts W,rI W,trivial⟩ fun tr cs h=>by
  have h0:tr 9 ((cs.drop 0).take (prog.cellsOf 9)):=h 0 _ rfl
  have h1:tr 56 ((cs.drop 1).take (prog.cellsOf 56)):=h 1 _ rfl
  have h2:tr 3 ((cs.drop 2).take (prog.cellsOf 3)):=h 2 _ rfl
  rw[c3] at h2
  rw[c9] at h0
  rw[c56] at h1
  exact⟨h0,h1,h2,trivial⟩) fun g h=>by
  obtain⟨_,_,⟨s,hs,rfl⟩,⟨_,_,⟨l,hl,hl2,rfl⟩,⟨_,_,⟨n,hn,rfl⟩,rfl,rfl⟩,rfl⟩,rfl⟩:=h
  exact⟨s,l,n,hs,hl,hl2,hn,rfl⟩
end Go.Fly.Tryz
end
section
set_option maxRecDepth 100000
namespace Go.Proofs.YtkfbgillhhhdgaaGreatDoor
open Go Go.ChangeShapes Go.WideShapes Go.RowKit Go.Fly Go.Fly.Off Go.Fly.Tryz Off
theorem read22:Tryz.prog.readableRec 22=true:=by kernel_rfl
theorem row22:22 < Tryz.prog.types.size:=of_decide_eq_true (by kernel_rfl)
theorem read64:Tryz.prog.readableRec 64=true:=by kernel_rfl
theorem row64:64 < Tryz.prog.types.size:=of_decide_eq_true (by kernel_rfl)
theorem lifted (os:Os)(started:os.Started)(H:Type)(enc:TypeId×Value→H) :
 ReturnsInHanded {} Tryz.checked os 5 .any (fun w args=>(Rows.officeChainsSpec.pre enc Tryz.prog Tryz.f5 [] false w args∧laidMetH Tryz.prog zgQ w)∧sizedMet enc Tryz.prog Tryz.f5 (OpenSpec.ofChange Rows.officeChainsSpec) false w args)
  (Rows.officeChainsSpec.post enc Tryz.prog Tryz.f5 false true false false):=by
 refine returnsInHanded_of_change_and (C:=Tryz.checked) (X:=fun w _=>laidMetH Tryz.prog zgQ w) (fun _ _ _ hh h=>h.of_heap hh) own started (by kernel_rfl) Tryz.func5
  (ChangeSpec.witness_shaped (enc:=enc) (C:=Tryz.checked) (os:=os) (X:=fun w _=>laidMetH Tryz.prog zgQ w) false (World.laidAll Tryz.prog os zgQ)
   #[.slice none 0 0,.agg #[.string ⟨#[]⟩,.slice none 0 0,.int .i64 0]] 8 (World.laidAll_os _ _ _) (World.shaped_of_ZipB (by kernel_rfl) (by kernel_rfl)) (by kernel_rfl) (by kernel_rfl) (by kernel_rfl) (laid_met os _)) ?_
 intro W base args ds gs before hval0 hW _ _ hL _
 have hval:∀ (j:Nat) t v,Tryz.f5.params[j]?=some t→args[j]?=some v→Value.okWide Tryz.prog W .any base t v:=hval0
 have hW':=hW
 obtain⟨p,q,hA0,hV,rfl,hfz,hnd⟩:=hW
 have hA:DataW.TrodAll enc Tryz.prog W 0 (fun _=>true) true Tryz.f5.params.toList args.toList ds p:=hA0
 have hplt:=hA.lt
 rw[Tryz.params5] at hA hval
 obtain⟨v0,v1,d0,d1,p0,p1,hargs,rfl,rfl,h0,h1⟩:=trodAll_two hA
 subst hargs
 obtain⟨rfl,rfl⟩:=trodVars_none hV
 obtain⟨a0,s0,u0,r0⟩:=sl_arg Tryz.underlying22 (rEvs W) (hval 0 22 v0 rfl rfl) h0
 obtain⟨l0,hl0,he0,ha0⟩:=s0
 obtain⟨rfl⟩:a0=zf 5 encEv l0:=by simpa using ha0
 obtain⟨g1,s1,u1,r1⟩:=agg_arg Tryz.underlying64 (rProof W) (hval 1 64 v1 rfl rfl) h1
 obtain⟨ts1,tc1,tv1,hts1,htc1,htn1,htv1,rfl⟩:=s1
 clear hA0 hval0
 have key:=znU (0,0) [zf 5 encEv l0,.agg [.str ts1,zf 2 wS tc1,.int .i64 tv1]] W (fun _=>False) #[v0,v1] (fun _ h=>h.elim) (zjQ hL)
  (fun a ha=>by
   simp only[List.mem_cons,List.not_mem_nil,or_false] at ha
   rcases ha with rfl | rfl
   ·exact u0
   ·exact u1)
  ⟨rfl,fun j v hv=>by
   match j,hv with
   | 0,hv=>cases hv;exact r0
   | 1,hv=>cases hv;exact r1
   | j+2,hv=>simp at hv⟩
  ⟨l0,ts1,tc1,tv1,rfl,⟨hl0,fun x hx=>(he0 x hx).len⟩,hts1,htc1,fun x hx=>(htn1 x hx).1⟩
 refine key.mono fun e W' ⟨rv,B,he,hst,_,hr⟩=>?_
 have hr:R _ (.bool true) rv:=hr
 obtain rfl:=hr.bool_inv
 have hno:∀ b,¬ (yN W fun _=>False).owned b:=fun b ⟨l,o,c,h,_⟩=>by cases h
 have hb:Below W.heap.size W W':=⟨hst.os,hst.tape,hst.output,hst.size,fun k hk=>hst.keep k hk (hno k)⟩
 have lt0:∀ x∈p0,x.block < W.heap.size:=fun x hx=>hplt x (by simp[hx])
 have lt1:∀ x∈p1,x.block < W.heap.size:=fun x hx=>hplt x (by simp[hx])
 refine⟨_,he,[d0,d1],[],_,[],p0++p1,[],hW',?_,?_,?_,hb.frame _,fun h=>by cases h⟩
 ·exact trodAll_mk1 (shut_bool Tryz.underlying4 true)
 ·exact trodAll_mk2 (hb.trod zm8 read22 row22 h0 lt0) (hb.trod zm8 read64 row64 h1 lt1)
 ·exact rfl
theorem e_place:(Rows.officeChainsRow.inPlace == Tryz.checked.prog.inPlace 5)=true:=by kernel_rfl
theorem e_unf:(Rows.officeChainsRow.unfollowed == Tryz.checked.prog.unfollowed 5)=true:=by kernel_rfl
theorem e_rec:(Rows.officeChainsRow.recurses == Tryz.checked.prog.recurses 5)=true:=by kernel_rfl
theorem e_named:(Rows.officeChainsRow.named == Tryz.checked.prog.varsNamed 5)=true:=by kernel_rfl
theorem e_lift:(Rows.officeChainsRow.lifted == Tryz.checked.prog.liftsFinal)=true:=by kernel_rfl
theorem e_make:(Tryz.checked.prog.make == some Rows.officeChainsRow.make)=true:=by kernel_rfl
theorem e_keys:(Rows.officeChainsRow.plainKeys == Tryz.checked.prog.plainKeys)=true:=by kernel_rfl
theorem e_goes:false=Rows.officeChainsRow.goesBy Tryz.checked.prog:=by kernel_rfl
theorem e_wf:Rows.officeChainsRow.wfByText (OpenSpec.ofChange Rows.officeChainsSpec)=true:=by kernel_rfl
theorem e_func:Tryz.checked.prog.funcNamed Rows.officeChainsRow.func=some 5:=by kernel_rfl
theorem e_wrap:Tryz.f5.isWrapper Tryz.checked.prog Rows.officeChainsRow.wrapper Rows.officeChainsRow.mainSum:=by
 unfold Func.isWrapper;rw[if_neg (of_decide_eq_false (by kernel_rfl))];exact⟨rfl,rfl⟩
theorem closed:joinedFacts Tryz.checked.prog 5 Tryz.f5 Rows.officeChainsSpec Rows.officeChainsRow=true:=by
 unfold joinedFacts
 simp only[Bool.and_eq_true,zmg,k_maps,k_enter,k_heard,e_place,e_unf,e_rec,e_named,e_lift,e_make,e_keys,and_true,true_and]
 (repeat' apply And.intro) <;> kernel_rfl
theorem said:Rows.OfficeChainsSaid :=
 OpenClaim.holds_of_wide 5 Tryz.f5 rfl rfl rfl rfl rfl rfl rfl ⟨rfl,rfl,rfl,rfl,rfl⟩ rfl rfl rfl rfl rfl e_func Tryz.func5 closed
  (of_decide_eq_true (by kernel_rfl)) e_wrap
  (fun os started H enc _=>lifted os started H enc)
theorem card_holds:Rows.OfficeChainsCardSaid :=
 Claim7.holds_tied_plain_at .later [] [.data,.data,.data,.data,.data,.widerDeep,.pinned] true (true, "955b595cc5385ef7a002e46dd68bcc84f6d549330109667ecef86e1e8b51a6b5") false
  said (fun _ h=>by cases h) e_wf (fun _ h=>by cases h) officeChains_row_tie rfl ⟨rfl,rfl⟩ k_main rfl
  (fun f fn hf hfn=>by
   obtain rfl:f=5:=Option.some.inj ((show Tryz.prog.funcNamed "flyover/flyoverlaw10.OfficeChains" = some 5 from e_func).symm.trans hf) |>.symm
   obtain rfl:fn=Tryz.f5:=(Option.some.inj (Tryz.func5.symm.trans hfn)).symm
   exact⟨k_looks,fun j t ht=>by
    rw[Tryz.params5] at ht
    have hm:t∈[22,64]:=by simpa using Array.mem_of_getElem? ht
    have hall:([22,64].all fun u=>!Tryz.prog.wantsStandIn u)=true:=by kernel_rfl
    exact(show Tryz.prog.wantsStandIn t=false by simpa using List.all_eq_true.1 hall t hm)⟩)
  e_goes
#print axioms card_holds
end Go.Proofs.YtkfbgillhhhdgaaGreatDoor
end
