/- Part of a proof. No conditions. -/
import Derived.Test.YtkfbgillhhhdgaaGreatDoorSYOEn
import Derived.Test.YtkfbgillhhhdgaaGreatDoorAJ
import Derived.Test.YtkfbgillhhhdgaaGreatDoorSYOOC
import Derived.Test.YtkfbgillhhhdgaaGreatDoorAM
import Derived.Test.YtkfbgillhhhdgaaGreatDoorAI
import Derived.Test.YtkfbgillhhhdgaaGreatDoorAK
set_option linter.unusedSimpArgs false
set_option linter.unusedVariables false
section
set_option maxRecDepth 100000
set_option maxHeartbeats 4000000
namespace Go.Fly.Tryz
open Go Go.Proofs.Tryz
theorem qName_ok:Holds prog G0 181 zgH:=by
 refine Holds.of_exC D181 func181 rfl zK (by kernel_rfl) (tab []) (zk trivial) zw fun k0 rl args hpu hpre=>?_
 unfold zgH at hpre ⊢
 split at hpre
 rotate_left
 ·exact hpre.elim
 rename_i s
 have hn:s.length≤9223372036854775807:=hpre
 simp only[f181]
 simp(maxSteps:=4000000) only[go_sem,↓wy]
 refine⟨fun h0=>⟨fun h=>zo.of_eq (by rw[kU (by omega)]),fun h=>?_⟩,fun h0=>zo.of_eq (by rw[kU (by omega)])⟩
 refine zB.loopI (β:=Nat) [2,4,5,14,15,16,17,18,19,20,21,22,23,24,25,26,27,28,29,30,31,32,33,34,35,36,37,38,39,40,41,42,43,44,45,46,47,48,49,50,51,52,53,54,55,56,57,58,59,60,61,62,63,64,65,66,67] (fun i=>[(3,.int .i64 i)]) (fun _=>fun _=>none) (fun i=>i≤s.length∧∀ j,j < i→chB j (wI s j)=true) (fun i=>s.length - i) 0 ⟨by omega,fun j hj=>by omega⟩ ?_ zy.none ?_
 ·simp(maxSteps:=4000000) only[go_sem,↓wy]
  try simp
 ·intro ck i hck hI
  generalize hq:exC _ _ _ _ _=gg
  have hi:=hI.1
  have hf:=hI.2
  by_cases hlt:i < s.length
  ·have hd:decide ((i:Int) < (s.length:Int))=true:=by simp;omega
   obtain⟨c,hc⟩:∃ c,(s[i]?.getD 0).toNat=c:=⟨_,rfl⟩
   have hcb:wI s i=c:=by rw[← hc];simp[wI]
   have hcl:c < 48∨(48≤c∧c≤57)∨(58≤c∧c≤64)∨(65≤c∧c≤90)∨(91≤c∧c≤94)∨c=95∨c=96∨(97≤c∧c≤122)∨123≤c:=by omega
   have hi0:i=0∨0 < i:=by omega
   rcases hcl with q | q | q | q | q | q | q | q | q <;> rcases hi0 with z | z
   all_goals
    have f1:decide ((65:Int)≤(c:Int))=decide (65≤c):=by rw[decide_eq_decide];omega
    have f2:decide ((c:Int)≤90)=decide (c≤90):=by rw[decide_eq_decide];omega
    have f3:decide ((97:Int)≤(c:Int))=decide (97≤c):=by rw[decide_eq_decide];omega
    have f4:decide ((c:Int)≤122)=decide (c≤122):=by rw[decide_eq_decide];omega
    have f5:decide ((48:Int)≤(c:Int))=decide (48≤c):=by rw[decide_eq_decide];omega
    have f6:decide ((c:Int)≤57)=decide (c≤57):=by rw[decide_eq_decide];omega
    have f7:decide ((c:Int)=95)=decide (c=95):=by rw[decide_eq_decide];omega
    have f8:decide ((i:Int)=0)=decide (i=0):=by rw[decide_eq_decide];omega
    first | rw[decide_eq_true (by omega:65≤c)] at f1 | rw[decide_eq_false (by omega:¬ 65≤c)] at f1
    first | rw[decide_eq_true (by omega:c≤90)] at f2 | rw[decide_eq_false (by omega:¬ c≤90)] at f2
    first | rw[decide_eq_true (by omega:97≤c)] at f3 | rw[decide_eq_false (by omega:¬ 97≤c)] at f3
    first | rw[decide_eq_true (by omega:c≤122)] at f4 | rw[decide_eq_false (by omega:¬ c≤122)] at f4
    first | rw[decide_eq_true (by omega:48≤c)] at f5 | rw[decide_eq_false (by omega:¬ 48≤c)] at f5
    first | rw[decide_eq_true (by omega:c≤57)] at f6 | rw[decide_eq_false (by omega:¬ c≤57)] at f6
    first | rw[decide_eq_true (by omega:c=95)] at f7 | rw[decide_eq_false (by omega:¬ c=95)] at f7
    first | rw[decide_eq_true (by omega:i=0)] at f8 | rw[decide_eq_false (by omega:¬ i=0)] at f8
    rw[← hq]
    clear hq
    simp(maxSteps:=4000000) only[go_sem,↓wy,hc,hd,f1,f2,f3,f4,f5,f6,f7,f8]
    repeat (refine⟨by omega,?_⟩)
    first
     | (exact zo.of_eq (by rw[zia hlt (by rw[hcb];simp[chB,letB,othB];omega)]))
     | (exact⟨zn (by omega) (by omega),i+1,⟨hlt,fun j hj=>by
      rcases Nat.lt_or_ge j i with e | e
      ·exact hf j e
      ·obtain rfl:j=i:=by omega
       rw[hcb];simp[chB,letB,othB];omega⟩,by omega,by first | exact .inr rfl | rfl,zy.none⟩)
  ·have hd:decide ((i:Int) < (s.length:Int))=false:=by simp;omega
   rw[← hq]
   clear hq
   simp(maxSteps:=4000000) only[go_sem,↓wy,hd]
   exact zo.of_eq (by rw[zcX (by omega) (by omega) fun j hj=>hf j (by omega)])
theorem dWhen_ok:Holds prog G0 272 yf:=by
 refine Holds.of_exC D272 func272 rfl zK (by kernel_rfl) (tab []) (zk trivial) zw fun k0 rl args hpu hpre=>?_
 unfold yf at hpre ⊢
 split at hpre
 rotate_left
 ·exact hpre.elim
 simp only[f272]
 simp(maxSteps:=4000000) only[go_sem,↓wy]
 exact⟨fun h=>zo.of_eq (by simp[h,err]),fun h=>zo.of_eq (by simp[h,err])⟩
theorem jI:Holds prog G0 30 yf:=by
 refine Holds.of_exC D30 func30 rfl zK (by kernel_rfl) (tab []) (zk trivial) zw fun k0 rl args hpu hpre=>?_
 unfold yf at hpre ⊢
 split at hpre
 rotate_left
 ·exact hpre.elim
 simp only[f30]
 simp(maxSteps:=4000000) only[go_sem,↓wy]
 exact⟨fun h=>zo.of_eq (by simp[h,err]),fun h=>zo.of_eq (by simp[h,err])⟩
theorem zk2:Holds prog G0 256 yb:=by
 refine Holds.of_exC D256 func256 rfl zK (by kernel_rfl) (tab [(272,yf)]) (zk ⟨dWhen_ok,trivial⟩) zw fun k0 rl args hpu hpre=>?_
 unfold yb at hpre ⊢
 split at hpre
 rotate_left
 ·exact hpre.elim
 simp only[f256]
 simp(maxSteps:=4000000) only[go_sem,↓wy]
 exact⟨fun h=>zo.of_eq (by simp[h,err,rng]),fun h=>zo.of_eq (by simp[h,err,rng])⟩
theorem zeX:Holds prog G0 49 yb:=by
 refine Holds.of_exC D49 func49 rfl zK (by kernel_rfl) (tab [(30,yf)]) (zk ⟨jI,trivial⟩) zw fun k0 rl args hpu hpre=>?_
 unfold yb at hpre ⊢
 split at hpre
 rotate_left
 ·exact hpre.elim
 simp only[f49]
 simp(maxSteps:=4000000) only[go_sem,↓wy]
 exact⟨fun h=>zo.of_eq (by simp[h,err,rng]),fun h=>zo.of_eq (by simp[h,err,rng])⟩
theorem kJ:Holds prog G0 29 w7:=by
 refine Holds.of_exC D29 func29 rfl zK (by kernel_rfl) (tab []) (zk trivial) zw fun k0 rl args hpu hpre=>?_
 unfold w7 at hpre ⊢
 split at hpre
 rotate_left
 ·exact hpre.elim
 rename_i n sz get
 obtain⟨rfl,hn,hget⟩:=hpre
 simp only[f29]
 simp(maxSteps:=4000000) only[go_sem,↓wy]
 refine zB.loopI (β:=Nat) [2,4,5,6,7,8,9,10,11,12,13,14,15,16,17,18] (fun i=>[(3,.int .i64 i)]) (fun _=>fun _=>none) (fun i=>i≤n∧yZ (vR get) 0 n=yZ (vR get) i (n - i)) (fun i=>n - i) 0 ⟨by omega,by simp⟩ ?_ zy.none ?_
 ·simp(maxSteps:=4000000) only[go_sem,↓wy]
  try simp
 ·intro ck i hck hI
  have hi:=hI.1
  have hf:=hI.2
  simp(maxSteps:=4000000) only[go_sem,↓wy]
  refine⟨fun hlt=>?_,fun hge=>?_⟩
  ·have hlt:i < n:=by omega
   have hg:=hget i hlt
   rw[zc9 hlt] at hf
   simp(maxSteps:=4000000) only[go_sem,↓wy,hg]
   refine⟨by omega,fun h=>⟨by omega,zo.of_eq ?_⟩,fun h=>⟨zn (by omega) (by omega),i+1,⟨by omega,?_⟩,by omega,by first | exact .inr rfl | rfl,zy.none⟩⟩
   ·simp at h
    rw[hf,if_pos h]
   ·simp at h
    rw[hf,if_neg (by simpa using h)]
  ·rw[hf,zd6 (by omega)]
   exact zo.of_eq rfl
theorem zk4:Holds prog G0 244 (zfz (fun n=>rng n 0 10000000000000)):=by
 refine Holds.of_exC D244 func244 rfl zK (by kernel_rfl) (tab [(256,yb)]) (zk ⟨zk2,trivial⟩) zw fun k0 rl args hpu hpre=>?_
 unfold zfz at hpre ⊢
 split at hpre
 rotate_left
 ·exact hpre.elim
 simp only[f244]
 simp(maxSteps:=4000000) only[go_sem,↓wy]
 exact zo.of_eq rfl
theorem dName_ok:Holds prog G0 89 zgH:=by
 refine Holds.of_exC D89 func89 rfl zK (by kernel_rfl) (tab []) (zk trivial) zw fun k0 rl args hpu hpre=>?_
 unfold zgH at hpre ⊢
 split at hpre
 rotate_left
 ·exact hpre.elim
 rename_i s
 have hn:s.length≤9223372036854775807:=hpre
 have hsz:(⟨s.toArray⟩:ByteArray).size=s.length:=by simp[ByteArray.size]
 simp only[f89]
 simp(maxSteps:=4000000) only[go_sem,↓wy]
 refine⟨fun L o h=>(by cases h),fun L=>?_⟩
 refine zB.loopI (β:=Nat) [2,3,4,5,8,9,10,11,12,13,14,15,16,17,18,19,20,21,22,23,24,25,26,27,28,29,30,31,32,33,34,35,36,37,38,39,40,41,42,43] (fun i=>[]) (fun i=>updH (fun _=>none) (0,L) (.raw (.stringIter ⟨s.toArray⟩ i))) (fun i=>i≤s.length∧∀ j,j < i→chB j (wI s j)=true) (fun i=>s.length - i) 0 ⟨by omega,fun j hj=>by omega⟩ ?_ (zy.refl _) ?_
 ·simp(maxSteps:=4000000) only[go_sem,↓wy]
 ·intro ck i hck hI
  generalize hq:exC _ _ _ _ _=gg
  have hi:=hI.1
  have hf:=hI.2
  by_cases hlt:i < s.length
  ·have hge:¬ s.length≤i:=by omega
   obtain⟨c,hc⟩:∃ c,(Utf8.decode ⟨s.toArray⟩ i).1=c:=⟨_,rfl⟩
   have hcb:(wI s i=c∧c < 128∧(Utf8.decode ⟨s.toArray⟩ i).2=1)∨(128≤wI s i∧128≤c):=by
    by_cases hb:wI s i < 128
    ·have hd:=zcc hlt hb
     left
     rw[hd] at hc ⊢
     simp only at hc
     exact⟨hc,by omega,rfl⟩
    ·right
     have:=zfR hlt (Nat.not_lt.mp hb)
     rw[hc] at this
     exact⟨by omega,this⟩
   have hcl:c < 48∨(48≤c∧c≤57)∨(58≤c∧c≤64)∨(65≤c∧c≤90)∨(91≤c∧c≤94)∨c=95∨c=96∨(97≤c∧c≤122)∨123≤c:=by omega
   have hi0:i=0∨0 < i:=by omega
   rcases hcl with q | q | q | q | q | q | q | q | q <;> rcases hi0 with z | z
   all_goals
    have f1:decide ((65:Int)≤(c:Int))=decide (65≤c):=by rw[decide_eq_decide];omega
    have f2:decide ((c:Int)≤90)=decide (c≤90):=by rw[decide_eq_decide];omega
    have f3:decide ((97:Int)≤(c:Int))=decide (97≤c):=by rw[decide_eq_decide];omega
    have f4:decide ((c:Int)≤122)=decide (c≤122):=by rw[decide_eq_decide];omega
    have f5:decide ((c:Int) < 48)=decide (c < 48):=by rw[decide_eq_decide];omega
    have f6:decide ((57:Int) < (c:Int))=decide (57 < c):=by rw[decide_eq_decide];omega
    have f7:decide ((c:Int)=95)=decide (c=95):=by rw[decide_eq_decide];omega
    have f8:decide ((i:Int)=0)=decide (i=0):=by rw[decide_eq_decide];omega
    first | rw[decide_eq_true (by omega:65≤c)] at f1 | rw[decide_eq_false (by omega:¬ 65≤c)] at f1
    first | rw[decide_eq_true (by omega:c≤90)] at f2 | rw[decide_eq_false (by omega:¬ c≤90)] at f2
    first | rw[decide_eq_true (by omega:97≤c)] at f3 | rw[decide_eq_false (by omega:¬ 97≤c)] at f3
    first | rw[decide_eq_true (by omega:c≤122)] at f4 | rw[decide_eq_false (by omega:¬ c≤122)] at f4
    first | rw[decide_eq_true (by omega:c < 48)] at f5 | rw[decide_eq_false (by omega:¬ c < 48)] at f5
    first | rw[decide_eq_true (by omega:57 < c)] at f6 | rw[decide_eq_false (by omega:¬ 57 < c)] at f6
    first | rw[decide_eq_true (by omega:c=95)] at f7 | rw[decide_eq_false (by omega:¬ c=95)] at f7
    first | rw[decide_eq_true (by omega:i=0)] at f8 | rw[decide_eq_false (by omega:¬ i=0)] at f8
    rw[← hq]
    clear hq
    simp(maxSteps:=4000000) only[go_sem,↓wy,hsz,hlt,hge,hc,f1,f2,f3,f4,f5,f6,f7,f8]
    have hno:∀ b:Bool,chB i (wI s i)=false→zo (.bool false) (.bool (nameB s)):=fun _ h=>zo.of_eq (by rw[zia hlt h])
    first
     | (refine hno true ?_
        rcases hcb with⟨e1,e2,e3⟩ | ⟨e1,e2⟩
        ·rw[e1];simp[chB,letB,othB];omega
        ·simp[chB,letB,othB];omega)
     | (have e:wI s i=c∧(Utf8.decode ⟨s.toArray⟩ i).2=1:=by
         rcases hcb with⟨e1,e2,e3⟩ | ⟨e1,e2⟩
         ·exact⟨e1,e3⟩
         ·omega
        rw[e.2]
        exact⟨i+1,⟨hlt,fun j hj=>by
         rcases Nat.lt_or_ge j i with e' | e'
         ·exact hf j e'
         ·obtain rfl:j=i:=by omega
          rw[e.1];simp[chB,letB,othB];omega⟩,by omega,zy.upd zy.none ⟨_,zd _ _ _,rfl⟩⟩)
  ·have hge:s.length≤i:=by omega
   rw[← hq]
   clear hq
   simp(maxSteps:=4000000) only[go_sem,↓wy,hsz,hlt,hge]
   have hl:i=s.length:=by omega
   subst hl
   refine⟨fun h=>zo.of_eq ?_,fun h=>zo.of_eq ?_⟩
   ·have hne:s≠[]:=by simpa using h
    have hpos:0 < s.length:=List.length_pos_iff.2 hne
    by_cases h24:s.length≤24
    ·rw[zcX hpos h24 hf,decide_eq_true (by omega)]
    ·rw[kU (by omega),decide_eq_false (by omega)]
   ·have he:s=[]:=by simpa using h
    rw[kU (by simp[he])]
theorem zdK:Holds prog G0 93 qM:=by
 refine Holds.of_exC D93 func93 rfl zK (by kernel_rfl) (tab [(30,yf),(181,zgH)]) (zk ⟨jI,qName_ok,trivial⟩) zw fun k0 rl args hpu hpre=>?_
 unfold qM at hpre ⊢
 split at hpre
 rotate_left
 ·exact hpre.elim
 rename_i s
 have hn:s.length≤9223372036854775807:=hpre
 simp only[f93]
 simp(maxSteps:=4000000) only[go_sem,↓wy]
 exact⟨hn,zo.of_eq rfl⟩
end Go.Fly.Tryz
end
section
set_option maxRecDepth 100000
set_option maxHeartbeats 4000000
namespace Go.Fly.Tryz
open Go Off Go.Proofs.Tryz
def vV:Kd→FuncId
 | .type=>144 | .house=>146 | .flight=>148 | .match_=>150 | .correct=>154 | .publish=>158 | .offer=>162 | .fund=>166 | .pay=>168 | .complain=>171 | .answer=>173 | .dismiss=>176 | .undo=>179
def y9:Kd→FuncId
 | .type=>145 | .house=>147 | .flight=>149 | .match_=>153 | .correct=>156 | .publish=>159 | .offer=>165 | .fund=>167 | .pay=>170 | .complain=>172 | .answer=>175 | .dismiss=>178 | .undo=>180
theorem zi7:Holds prog G0 88 zbw:=by
 refine Holds.of_exC D88 func88 rfl zK (by kernel_rfl) (tab [(86,yf),(89,zgH)]) (zk ⟨wx,dName_ok,trivial⟩) zw fun k0 rl args hpu hpre=>?_
 unfold zbw at hpre ⊢
 split at hpre
 rotate_left
 ·exact hpre.elim
 rename_i s
 have hn:s.length≤9223372036854775807:=hpre
 simp only[f88]
 rw[zb (Nat.le_of_ble_eq_true rfl)]
 simp(maxSteps:=4000000) only[go_sem,↓zj]
 exact⟨hn,zo.of_eq rfl⟩
theorem zi6:Holds prog G0 91 (zfz (fun n=>rng n 0 999999999)):=by
 refine Holds.of_exC D91 func91 rfl zK (by kernel_rfl) (tab [(85,yb)]) (zk ⟨yh,trivial⟩) zw fun k0 rl args hpu hpre=>?_
 unfold zfz at hpre ⊢
 split at hpre
 rotate_left
 ·exact hpre.elim
 simp only[f91]
 rw[zb (Nat.le_of_ble_eq_true rfl)]
 simp(maxSteps:=4000000) only[go_sem,↓zj]
 exact zo.of_eq rfl
theorem zjq:Holds prog G0 87 (zdS 88):=by
 refine Holds.of_exC D87 func87 rfl zK (by kernel_rfl) (tab [(88,zbw)]) (zk ⟨zi7,trivial⟩) zw fun k0 rl args hpu hpre=>?_
 unfold zdS at hpre ⊢
 obtain⟨l,rfl,hl,hs⟩:=hpre
 simp only[zE,jZ]
 simp only[f87]
 rw[zb (Nat.le_of_ble_eq_true rfl)]
 simp(maxSteps:=4000000) only[go_sem,↓zj,zg]
 refine zB.ents (wu.nilArr (d:=5) (l:=(4,1000)) 1 (fun _=>[]) rfl rfl rfl) ?_
 simp(maxSteps:=4000000) only[go_sem,↓zj]
 refine zB.loopF (β:=Nat) [(5,5),(7,7),(10,20)] (fun i=>[(5,.msl (4,1000) 0 i),(10,.int .i64 i)]) (fun i=>updH (fun _=>none) (4,1000) (.arr i 1 (fun i=>[.int .i64 (err (!nameB (el l i)) 8)]))) (fun i=>i≤l.length) (fun i=>l.length - i) 0 (Nat.zero_le _) ?_ (zy.arr1 (zd _ _ _) rfl rfl fun i hi=>by omega) ?_
 ·simp(maxSteps:=4000000) only[go_sem,↓zj]
  try simp
 ·intro ck i hck hi
  generalize hq0:exC _ _ _ _ _=gg
  by_cases hlt:i < l.length
  ·have hd:decide ((i:Int) < (l.length:Int))=true:=by simp;omega
   rw[← hq0]
   clear hq0
   simp(maxSteps:=4000000) only[go_sem,↓zj,hd,zg]
   exact⟨⟨by omega,by omega⟩,hs _ (by rw[yp _ hlt];exact List.getElem_mem hlt),⟨by omega,by omega,wG rfl qG⟩,zn (by omega) (by omega),i+1,hlt,by omega,⟨rfl,rfl⟩,zy.arr1 (zd _ _ _) rfl rfl fun j hj=>snoc (f:=fun i=>[.int .i64 (err (!nameB (el l i)) 8)]) rfl rfl hj⟩
  ·have hd:decide ((i:Int) < (l.length:Int))=false:=by simp;omega
   obtain rfl:i=l.length:=by omega
   rw[← hq0]
   clear hq0
   simp(maxSteps:=4000000) only[go_sem,↓zj,hd,Nat.zero_add]
   exact zbq (by simp) fun i hi=>by rw[vD (fun s=>err (!nameB s) 8) l (by simpa using hi)]
theorem zjr:Holds prog G0 90 (zdT 91):=by
 refine Holds.of_exC D90 func90 rfl zK (by kernel_rfl) (tab [(91,zfz (fun n=>rng n 0 999999999))]) (zk ⟨zi6,trivial⟩) zw fun k0 rl args hpu hpre=>?_
 unfold zdT at hpre ⊢
 obtain⟨l,rfl,hl⟩:=hpre
 simp only[zE,qL]
 simp only[f90]
 rw[zb (Nat.le_of_ble_eq_true rfl)]
 simp(maxSteps:=4000000) only[go_sem,↓zj,zh]
 refine zB.ents (wu.nilArr (d:=5) (l:=(4,1000)) 1 (fun _=>[]) rfl rfl rfl) ?_
 simp(maxSteps:=4000000) only[go_sem,↓zj]
 refine zB.loopF (β:=Nat) [(5,5),(7,7),(10,20)] (fun i=>[(5,.msl (4,1000) 0 i),(10,.int .i64 i)]) (fun i=>updH (fun _=>none) (4,1000) (.arr i 1 (fun i=>[.int .i64 (rng (el l i) 0 999999999)]))) (fun i=>i≤l.length) (fun i=>l.length - i) 0 (Nat.zero_le _) ?_ (zy.arr1 (zd _ _ _) rfl rfl fun i hi=>by omega) ?_
 ·simp(maxSteps:=4000000) only[go_sem,↓zj]
  try simp
 ·intro ck i hck hi
  generalize hq0:exC _ _ _ _ _=gg
  by_cases hlt:i < l.length
  ·have hd:decide ((i:Int) < (l.length:Int))=true:=by simp;omega
   rw[← hq0]
   clear hq0
   simp(maxSteps:=4000000) only[go_sem,↓zj,hd,zh]
   exact⟨⟨by omega,by omega⟩,⟨by omega,by omega,wG rfl qG⟩,zn (by omega) (by omega),i+1,hlt,by omega,⟨rfl,rfl⟩,zy.arr1 (zd _ _ _) rfl rfl fun j hj=>snoc (f:=fun i=>[.int .i64 (rng (el l i) 0 999999999)]) rfl rfl hj⟩
  ·have hd:decide ((i:Int) < (l.length:Int))=false:=by simp;omega
   obtain rfl:i=l.length:=by omega
   rw[← hq0]
   clear hq0
   simp(maxSteps:=4000000) only[go_sem,↓zj,hd,Nat.zero_add]
   exact zbq (by simp) fun i hi=>by rw[vD (fun v=>rng v 0 999999999) l (by simpa using hi)]
theorem zY:Holds prog G0 83 (wX vV y9):=by
 refine Holds.of_exC D83 func83 rfl zK (by kernel_rfl) (tab []) (zk trivial) zw fun k0 rl args hpu hpre=>?_
 unfold wX at hpre ⊢
 have hpre:args=[]:=hpre
 subst hpre
 simp only[f83]
 rw[zb (Nat.le_of_ble_eq_true rfl)]
 simp(maxSteps:=4000000) only[go_sem,↓zj,List.push_toArray,List.nil_append,List.cons_append,List.cons.injEq,u8_1,u8_2,u8_3,u8_4,u8_5,u8_6,u8_7,u8_8,u8_9,u8_10,u8_11,List.toList_toArray,Array.toList_push,not_false_eq_true]
 exact⟨fun L o h=>(by cases h),fun L=>zo.of_eq (zfB.trans rfl)⟩
theorem jt:Holds prog G0 18 za7:=by
 refine Holds.of_exC D18 func18 rfl zK (by kernel_rfl) (tab [(83,wX vV y9),(84,w7),(85,yb),(86,yf),(87,zdS 88),(88,zbw),(90,zdT 91),(91,zfz (fun n=>rng n 0 999999999)),(zm 1,zG)]) (zk ⟨zY,wB,yh,wx,zjq,zi7,zjr,zi6,za,trivial⟩) zw fun k0 rl args hpu hpre=>?_
 unfold za7 at hpre ⊢
 obtain⟨e,rfl,hb⟩:=hpre
 simp only[zE,zq,wH]
 cases hk:kindOf e.kind with
 | none =>
   have h1:∀ sh,zv [rng e.num 1 1000,13,sh]=eventE e:=fun sh=>(kf hk sh).1
   have h2:decide (eventE e=0)=false:=decide_eq_false (kf hk 0).2
   simp only[f18]
   rw[zb (Nat.le_of_ble_eq_true rfl)]
   simp(maxSteps:=4000000) only[go_sem,↓zj,encEv,zg,zh,hk,Option.isSome_none,Bool.not_false,err_t,h1,h2]
   exact⟨fun _=>zo.of_eq rfl,fun _=>zo.of_eq rfl⟩
 | some k =>
   have he:=zh4 hk
   have hl1:(e.names.map fun s=>err (!nameB s) 8).length≤9223372036854775807:=by rw[List.length_map];have:=hb.names;omega
   have hl2:(e.vals.map fun v=>rng v 0 999999999).length≤9223372036854775807:=by rw[List.length_map];have:=hb.vals;omega
   have hn:=hb.names
   have hv:=hb.vals
   have hs:=hb.strs
   by_cases c1:e.names.length=k.letters.length
   ·have d1:decide ((e.names.length:Int)=(k.letters.length:Int))=true:=decide_eq_true (by omega)
    have e2:(decide (e.names.length≠k.letters.length) || decide (e.vals.length≠k.values))=!decide ((e.vals.length:Int)=(k.values:Int)):=by
     by_cases c2:e.vals.length=k.values
     ·rw[decide_eq_true (show (e.vals.length:Int)=(k.values:Int) by omega)];simp[c1,c2]
     ·rw[decide_eq_false (show ¬ (e.vals.length:Int)=(k.values:Int) by omega)];simp[c1,c2]
    rw[e2] at he
    by_cases w:zv [rng e.num 1 1000,0,err (!decide ((e.vals.length:Int)=(k.values:Int))) 2]=0
    ·rw[if_neg (by simpa using w)] at he
     simp only[f18]
     rw[zb (Nat.le_of_ble_eq_true rfl)]
     simp(maxSteps:=4000000) only[go_sem,↓zj,encEv,zg,zh,hk,Option.isSome_some,Bool.not_true,err_f,d1,w,decide_true,Bool.not_false]
     exact⟨⟨_,rfl,hn,hs⟩,hl1,⟨_,rfl,hv⟩,hl2,zo.of_eq (by rw[he];simp)⟩
    ·rw[if_pos (by simpa using w)] at he
     have dw:decide (zv [rng e.num 1 1000,0,err (!decide ((e.vals.length:Int)=(k.values:Int))) 2]=0)=false:=decide_eq_false w
     simp only[f18]
     rw[zb (Nat.le_of_ble_eq_true rfl)]
     simp(maxSteps:=4000000) only[go_sem,↓zj,encEv,zg,zh,hk,Option.isSome_some,Bool.not_true,err_f,d1,dw,Bool.not_false]
     exact zo.of_eq (by rw[he])
   ·have d1:decide ((e.names.length:Int)=(k.letters.length:Int))=false:=decide_eq_false (by omega)
    have e2:err (decide (e.names.length≠k.letters.length) || decide (e.vals.length≠k.values)) 2=2:=by
     rw[decide_eq_true c1];rfl
    rw[e2] at he
    have w:zv [rng e.num 1 1000,0,2]≠0:=by unfold zv;split <;> simp_all [zv]
    rw[if_pos w] at he
    have dw:decide (zv [rng e.num 1 1000,0,2]=0)=false:=decide_eq_false w
    simp only[f18]
    rw[zb (Nat.le_of_ble_eq_true rfl)]
    simp(maxSteps:=4000000) only[go_sem,↓zj,encEv,zg,zh,hk,Option.isSome_some,Bool.not_true,err_f,err_t,d1,dw,Bool.not_false]
    exact zo.of_eq (by rw[he])
end Go.Fly.Tryz
end
section
set_option maxRecDepth 100000
namespace Go.Fly.Tryz
open Go
end Go.Fly.Tryz
end
section
set_option maxRecDepth 100000
set_option maxHeartbeats 1000000
namespace Go.Fly.Tryz
open Go Go.Proofs.Tryz
theorem zno:∀ {k:Nat},k < 10→(List.drop k [V.int .i64 10,.int .i64 13,.int .i64 16,.int .i64 20,.int .i64 25,.int .i64 32,.int .i64 40,.int .i64 50,.int .i64 63,.int .i64 79]).head?=some (.int .i64 (vE k))
 | 0,_ | 1,_ | 2,_ | 3,_ | 4,_ | 5,_ | 6,_ | 7,_ | 8,_ | 9,_=>rfl
 | n+10,h=>by omega
theorem znq (k:Int):10≤vE k∧vE k≤79:=by unfold vE;split <;> decide
theorem dThr_ok:Holds prog G0 257 thrC:=by
 refine Holds.of_exC D257 func257 rfl zK (by kernel_rfl) (tab []) (zk trivial) zw fun k0 rl args hpu hpre=>?_
 unfold thrC at hpre ⊢
 split at hpre
 rotate_left
 ·exact hpre.elim
 rename_i l
 obtain⟨h1,h2⟩:=hpre
 obtain⟨k,hk⟩:∃ k:Nat,l % 10=k:=⟨(l % 10).toNat,by omega⟩
 obtain⟨q,hq⟩:∃ q:Nat,l / 10=q:=⟨(l / 10).toNat,by omega⟩
 have e1:l.tmod 10=(k:Int):=by rw[Int.tmod_eq_emod_of_nonneg h1,hk]
 have e2:l.tdiv 10=(q:Int):=by rw[Int.tdiv_eq_ediv_of_nonneg h1,hq]
 have hk9:k < 10:=by omega
 have hb:=znq k
 have hq12:q≤12:=by omega
 have hpow:∀ i:Nat,i≤12→(1:Int)≤10 ^ i∧(10:Int) ^ i≤1000000000000:=by decide
 have hmul:∀ i:Nat,i≤12→0≤vE k * 10 ^ i∧vE k * 10 ^ i≤79 * 1000000000000:=fun i hi=>zfj (by omega) hb.2 (by have:=hpow i hi;omega) (hpow i hi).2
 have hval:zhp l=vE k * 10 ^ q:=by unfold zhp;rw[hk,hq];rfl
 simp only[f257]
 simp(maxSteps:=4000000) only[go_sem,↓wy,e1,e2,Nat.mul_one,zno hk9]
 refine⟨by omega,zn (by omega) (by omega),?_⟩
 refine zB.loopI (β:=Nat) [11,12,13,14] (fun i=>[(3,.int .i64 (vE k * 10 ^ i)),(10,.int .i64 i)]) (fun _=>fun _=>none) (fun i=>i≤q) (fun i=>q - i) 0 (Nat.zero_le _) ?_ zy.none ?_
 ·simp(maxSteps:=4000000) only[go_sem,↓wy]
  try simp
 ·intro ck i hck hi
  simp(maxSteps:=4000000) only[go_sem,↓wy]
  refine⟨fun hlt=>?_,fun hge=>?_⟩
  ·have hlt:i < q:=by omega
   have:=hmul (i+1) (by omega)
   rw[Int.pow_succ,← Int.mul_assoc] at this
   refine⟨zn (by omega) (by omega),zn (by omega) (by omega),by omega,i+1,hlt,by omega,⟨by first | exact .inr (by rw[Int.pow_succ,Int.mul_assoc]) | rw[Int.pow_succ,Int.mul_assoc],by first | exact .inr rfl | rfl⟩,zy.none⟩
  ·have:i=q:=by omega
   subst this
   exact zo.of_eq (by rw[hval])
theorem zne:Holds prog G0 245 zdX:=by
 refine Holds.of_exC D245 func245 rfl zK (by kernel_rfl) (tab [(257,thrC)]) (zk ⟨dThr_ok,trivial⟩) zw fun k0 rl args hpu hpre=>?_
 unfold zdX at hpre ⊢
 split at hpre
 rotate_left
 ·exact hpre.elim
 rename_i e
 simp only[f245]
 simp(maxSteps:=4000000) only[go_sem,↓wy]
 refine zB.loopI (β:=Nat) [4,5,6,7,8,9,10,11,12,13,14] (fun i=>[(3,.int .i64 ((i:Int) - 1))]) (fun _=>fun _=>none) (fun i=>i≤121∧levelE e=levE e (121 - i) ((i:Int) - 1)) (fun i=>121 - i) 0 ⟨by omega,rfl⟩ ?_ zy.none ?_
 ·simp(maxSteps:=4000000) only[go_sem,↓wy]
  try simp
 ·intro ck i hck hI
  have hi:=hI.1
  have hf:=hI.2
  simp(maxSteps:=4000000) only[go_sem,↓wy]
  refine⟨fun hlt=>?_,fun hge=>?_⟩
  ·rw[show 121 - i=(121 - (i+1))+1 by omega] at hf
   unfold levE at hf
   refine⟨zn (by omega) (by omega),⟨by omega,by omega⟩,fun h=>⟨zn (by omega) (by omega),by omega,i+1,⟨by omega,?_⟩,by omega,by first | exact .inr (by congr 1;omega) | (congr 1;omega),zy.none⟩,fun h=>zo.of_eq ?_⟩
   ·rw[if_pos h] at hf
    rw[hf]
    congr 1
    omega
   ·rw[if_neg h] at hf
    rw[hf]
  ·rw[show 121 - i=0 by omega] at hf
   exact zo.of_eq (by rw[hf];rfl)
theorem zk3:Holds prog G0 187 zdW:=by
 refine Holds.of_exC D187 func187 rfl zK (by kernel_rfl) (tab [(244,zfz (fun n=>rng n 0 10000000000000)),(245,zdX)]) (zk ⟨zk4,zne,trivial⟩) zw fun k0 rl args hpu hpre=>?_
 unfold zdW at hpre ⊢
 split at hpre
 rotate_left
 ·exact hpre.elim
 rename_i e
 obtain⟨h1,h2⟩:=hpre
 simp only[f187]
 simp(maxSteps:=4000000) only[go_sem,↓wy]
 have hr:rng e 0 10000000000000=0:=y6.2 ⟨h1,h2⟩
 rw[hr]
 exact⟨fun h=>(by simp at h),fun h=>zo.of_eq rfl⟩
end Go.Fly.Tryz
end
