/- Part of a proof. No conditions. -/
import Derived.Test.YtkfbgillhhhdgaaGreatDoorSYOOB
import Derived.Test.YtkfbgillhhhdgaaGreatDoorAW
import Derived.Test.YtkfbgillhhhdgaaGreatDoorSYORJ
import Derived.Test.YtkfbgillhhhdgaaGreatDoorAZ
set_option linter.unusedSimpArgs false
set_option linter.unusedVariables false
section
set_option maxRecDepth 100000
set_option maxHeartbeats 1000000
namespace Go.Fly.Tryz
open Go Off Go.Proofs.Tryz
theorem zak:Holds prog G0 50 (yd 116):=by
 refine Holds.of_exC D50 func50 rfl zK (by kernel_rfl) (tab [(zm 2,zG)]) (zk ⟨za,trivial⟩) zw fun k0 rl args hpu hpre=>?_
 unfold yd at hpre ⊢
 obtain⟨r,s,rfl,hr⟩:=hpre
 simp only[zE,zV,zq,zN,zF]
 have hln:=hr.types
 have hnm:r.namesOf 116=r.types.map (·.name):=rfl
 rw[hnm]
 simp only[f50]
 rw[zb (Nat.le_of_ble_eq_true rfl)]
 simp(maxSteps:=4000000) only[go_sem,↓zj,zt,zf,wg]
 refine zB.loopF (β:=Nat) [(4,21)] (fun i=>[(5,.int .i64 i)]) (fun _=>fun _=>none) (fun i=>i≤r.types.length∧∀ j,j < i→el (r.types.map (·.name)) j≠s) (fun i=>r.types.length - i) 0 ⟨Nat.zero_le _,fun j hj=>by omega⟩ ?_ zy.none ?_
 ·simp(maxSteps:=400000) only[go_sem,↓zj]
  try exact rfl
 ·intro ck i hck hI
  obtain⟨hi,hb⟩:=hI
  generalize hq0:exC _ _ _ _ _=gg
  by_cases hlt:i < r.types.length
  ·have hd:decide ((i:Int) < (r.types.length:Int))=true:=decide_eq_true (by omega)
   have hem:el (r.types.map (·.name)) i=(el r.types i).name:=vD (f:=(·.name)) r.types hlt
   rw[← hq0]
   clear hq0
   simp(maxSteps:=400000) only[go_sem,↓zj,hd,zt,zf,wg]
   refine⟨⟨by omega,by omega⟩,fun h=>zo.of_eq ?_,fun h=>⟨zn (by omega) (by omega),i+1,⟨hlt,fun j hj=>?_⟩,by omega,rfl,zy.none⟩⟩
   ·rw[zc3 (by rw[List.length_map];exact hlt) (hem.trans h) hb]
   ·by_cases e:j=i
    ·subst e;rw[hem];exact h
    ·exact hb j (by omega)
  ·have hd:decide ((i:Int) < (r.types.length:Int))=false:=decide_eq_false (by omega)
   obtain rfl:i=r.types.length:=by omega
   rw[← hq0]
   clear hq0
   simp(maxSteps:=400000) only[go_sem,↓zj,hd]
   rw[jS fun j hj=>hb j (by rw[List.length_map] at hj;exact hj)]
   exact zo.of_eq rfl
theorem zbI:Holds prog G0 28 (yd 104):=by
 refine Holds.of_exC D28 func28 rfl zK (by kernel_rfl) (tab [(zm 2,zG)]) (zk ⟨za,trivial⟩) zw fun k0 rl args hpu hpre=>?_
 unfold yd at hpre ⊢
 obtain⟨r,s,rfl,hr⟩:=hpre
 simp only[zE,zV,zq,zN,zF]
 have hln:=hr.houses
 have hnm:r.namesOf 104=r.houses.map (·.name):=rfl
 rw[hnm]
 simp only[f28]
 rw[zb (Nat.le_of_ble_eq_true rfl)]
 simp(maxSteps:=4000000) only[go_sem,↓zj,zt,zf,zZ]
 refine zB.loopF (β:=Nat) [(4,21)] (fun i=>[(5,.int .i64 i)]) (fun _=>fun _=>none) (fun i=>i≤r.houses.length∧∀ j,j < i→el (r.houses.map (·.name)) j≠s) (fun i=>r.houses.length - i) 0 ⟨Nat.zero_le _,fun j hj=>by omega⟩ ?_ zy.none ?_
 ·simp(maxSteps:=400000) only[go_sem,↓zj]
  try exact rfl
 ·intro ck i hck hI
  obtain⟨hi,hb⟩:=hI
  generalize hq0:exC _ _ _ _ _=gg
  by_cases hlt:i < r.houses.length
  ·have hd:decide ((i:Int) < (r.houses.length:Int))=true:=decide_eq_true (by omega)
   have hem:el (r.houses.map (·.name)) i=(el r.houses i).name:=vD (f:=(·.name)) r.houses hlt
   rw[← hq0]
   clear hq0
   simp(maxSteps:=400000) only[go_sem,↓zj,hd,zt,zf,zZ]
   refine⟨⟨by omega,by omega⟩,fun h=>zo.of_eq ?_,fun h=>⟨zn (by omega) (by omega),i+1,⟨hlt,fun j hj=>?_⟩,by omega,rfl,zy.none⟩⟩
   ·rw[zc3 (by rw[List.length_map];exact hlt) (hem.trans h) hb]
   ·by_cases e:j=i
    ·subst e;rw[hem];exact h
    ·exact hb j (by omega)
  ·have hd:decide ((i:Int) < (r.houses.length:Int))=false:=decide_eq_false (by omega)
   obtain rfl:i=r.houses.length:=by omega
   rw[← hq0]
   clear hq0
   simp(maxSteps:=400000) only[go_sem,↓zj,hd]
   rw[jS fun j hj=>hb j (by rw[List.length_map] at hj;exact hj)]
   exact zo.of_eq rfl
theorem qj:Holds prog G0 191 (yd 102):=by
 refine Holds.of_exC D191 func191 rfl zK (by kernel_rfl) (tab [(zm 2,zG)]) (zk ⟨za,trivial⟩) zw fun k0 rl args hpu hpre=>?_
 unfold yd at hpre ⊢
 obtain⟨r,s,rfl,hr⟩:=hpre
 simp only[zE,zV,zq,zN,zF]
 have hln:=hr.flights
 have hnm:r.namesOf 102=r.flights.map (·.name):=rfl
 rw[hnm]
 simp only[f191]
 rw[zb (Nat.le_of_ble_eq_true rfl)]
 simp(maxSteps:=4000000) only[go_sem,↓zj,zt,zf,zM]
 refine zB.loopF (β:=Nat) [(4,21)] (fun i=>[(5,.int .i64 i)]) (fun _=>fun _=>none) (fun i=>i≤r.flights.length∧∀ j,j < i→el (r.flights.map (·.name)) j≠s) (fun i=>r.flights.length - i) 0 ⟨Nat.zero_le _,fun j hj=>by omega⟩ ?_ zy.none ?_
 ·simp(maxSteps:=400000) only[go_sem,↓zj]
  try exact rfl
 ·intro ck i hck hI
  obtain⟨hi,hb⟩:=hI
  generalize hq0:exC _ _ _ _ _=gg
  by_cases hlt:i < r.flights.length
  ·have hd:decide ((i:Int) < (r.flights.length:Int))=true:=decide_eq_true (by omega)
   have hem:el (r.flights.map (·.name)) i=(el r.flights i).name:=vD (f:=(·.name)) r.flights hlt
   rw[← hq0]
   clear hq0
   simp(maxSteps:=400000) only[go_sem,↓zj,hd,zt,zf,zM]
   refine⟨⟨by omega,by omega⟩,fun h=>zo.of_eq ?_,fun h=>⟨zn (by omega) (by omega),i+1,⟨hlt,fun j hj=>?_⟩,by omega,rfl,zy.none⟩⟩
   ·rw[zc3 (by rw[List.length_map];exact hlt) (hem.trans h) hb]
   ·by_cases e:j=i
    ·subst e;rw[hem];exact h
    ·exact hb j (by omega)
  ·have hd:decide ((i:Int) < (r.flights.length:Int))=false:=decide_eq_false (by omega)
   obtain rfl:i=r.flights.length:=by omega
   rw[← hq0]
   clear hq0
   simp(maxSteps:=400000) only[go_sem,↓zj,hd]
   rw[jS fun j hj=>hb j (by rw[List.length_map] at hj;exact hj)]
   exact zo.of_eq rfl
theorem zl9:Holds prog G0 43 (yd 109):=by
 refine Holds.of_exC D43 func43 rfl zK (by kernel_rfl) (tab [(zm 2,zG)]) (zk ⟨za,trivial⟩) zw fun k0 rl args hpu hpre=>?_
 unfold yd at hpre ⊢
 obtain⟨r,s,rfl,hr⟩:=hpre
 simp only[zE,zV,zq,zN,zF]
 have hln:=hr.maps
 have hnm:r.namesOf 109=r.maps.map (·.name):=rfl
 rw[hnm]
 simp only[f43]
 rw[zb (Nat.le_of_ble_eq_true rfl)]
 simp(maxSteps:=4000000) only[go_sem,↓zj,zt,zf,wq]
 refine zB.loopF (β:=Nat) [(4,21)] (fun i=>[(5,.int .i64 i)]) (fun _=>fun _=>none) (fun i=>i≤r.maps.length∧∀ j,j < i→el (r.maps.map (·.name)) j≠s) (fun i=>r.maps.length - i) 0 ⟨Nat.zero_le _,fun j hj=>by omega⟩ ?_ zy.none ?_
 ·simp(maxSteps:=400000) only[go_sem,↓zj]
  try exact rfl
 ·intro ck i hck hI
  obtain⟨hi,hb⟩:=hI
  generalize hq0:exC _ _ _ _ _=gg
  by_cases hlt:i < r.maps.length
  ·have hd:decide ((i:Int) < (r.maps.length:Int))=true:=decide_eq_true (by omega)
   have hem:el (r.maps.map (·.name)) i=(el r.maps i).name:=vD (f:=(·.name)) r.maps hlt
   rw[← hq0]
   clear hq0
   simp(maxSteps:=400000) only[go_sem,↓zj,hd,zt,zf,wq]
   refine⟨⟨by omega,by omega⟩,fun h=>zo.of_eq ?_,fun h=>⟨zn (by omega) (by omega),i+1,⟨hlt,fun j hj=>?_⟩,by omega,rfl,zy.none⟩⟩
   ·rw[zc3 (by rw[List.length_map];exact hlt) (hem.trans h) hb]
   ·by_cases e:j=i
    ·subst e;rw[hem];exact h
    ·exact hb j (by omega)
  ·have hd:decide ((i:Int) < (r.maps.length:Int))=false:=decide_eq_false (by omega)
   obtain rfl:i=r.maps.length:=by omega
   rw[← hq0]
   clear hq0
   simp(maxSteps:=400000) only[go_sem,↓zj,hd]
   rw[jS fun j hj=>hb j (by rw[List.length_map] at hj;exact hj)]
   exact zo.of_eq rfl
theorem qZ:Holds prog G0 142 (yd 111):=by
 refine Holds.of_exC D142 func142 rfl zK (by kernel_rfl) (tab [(zm 2,zG)]) (zk ⟨za,trivial⟩) zw fun k0 rl args hpu hpre=>?_
 unfold yd at hpre ⊢
 obtain⟨r,s,rfl,hr⟩:=hpre
 simp only[zE,zV,zq,zN,zF]
 have hln:=hr.offers
 have hnm:r.namesOf 111=r.offers.map (·.name):=rfl
 rw[hnm]
 simp only[f142]
 rw[zb (Nat.le_of_ble_eq_true rfl)]
 simp(maxSteps:=4000000) only[go_sem,↓zj,zt,zf,zX]
 refine zB.loopF (β:=Nat) [(4,21)] (fun i=>[(5,.int .i64 i)]) (fun _=>fun _=>none) (fun i=>i≤r.offers.length∧∀ j,j < i→el (r.offers.map (·.name)) j≠s) (fun i=>r.offers.length - i) 0 ⟨Nat.zero_le _,fun j hj=>by omega⟩ ?_ zy.none ?_
 ·simp(maxSteps:=400000) only[go_sem,↓zj]
  try exact rfl
 ·intro ck i hck hI
  obtain⟨hi,hb⟩:=hI
  generalize hq0:exC _ _ _ _ _=gg
  by_cases hlt:i < r.offers.length
  ·have hd:decide ((i:Int) < (r.offers.length:Int))=true:=decide_eq_true (by omega)
   have hem:el (r.offers.map (·.name)) i=(el r.offers i).name:=vD (f:=(·.name)) r.offers hlt
   rw[← hq0]
   clear hq0
   simp(maxSteps:=400000) only[go_sem,↓zj,hd,zt,zf,zX]
   refine⟨⟨by omega,by omega⟩,fun h=>zo.of_eq ?_,fun h=>⟨zn (by omega) (by omega),i+1,⟨hlt,fun j hj=>?_⟩,by omega,rfl,zy.none⟩⟩
   ·rw[zc3 (by rw[List.length_map];exact hlt) (hem.trans h) hb]
   ·by_cases e:j=i
    ·subst e;rw[hem];exact h
    ·exact hb j (by omega)
  ·have hd:decide ((i:Int) < (r.offers.length:Int))=false:=decide_eq_false (by omega)
   obtain rfl:i=r.offers.length:=by omega
   rw[← hq0]
   clear hq0
   simp(maxSteps:=400000) only[go_sem,↓zj,hd]
   rw[jS fun j hj=>hb j (by rw[List.length_map] at hj;exact hj)]
   exact zo.of_eq rfl
theorem ka:Holds prog G0 143 (yd 99):=by
 refine Holds.of_exC D143 func143 rfl zK (by kernel_rfl) (tab [(zm 2,zG)]) (zk ⟨za,trivial⟩) zw fun k0 rl args hpu hpre=>?_
 unfold yd at hpre ⊢
 obtain⟨r,s,rfl,hr⟩:=hpre
 simp only[zE,zV,zq,zN,zF]
 have hln:=hr.complaints
 have hnm:r.namesOf 99=r.complaints.map (·.name):=rfl
 rw[hnm]
 simp only[f143]
 rw[zb (Nat.le_of_ble_eq_true rfl)]
 simp(maxSteps:=4000000) only[go_sem,↓zj,zt,zf,zP]
 refine zB.loopF (β:=Nat) [(4,21)] (fun i=>[(5,.int .i64 i)]) (fun _=>fun _=>none) (fun i=>i≤r.complaints.length∧∀ j,j < i→el (r.complaints.map (·.name)) j≠s) (fun i=>r.complaints.length - i) 0 ⟨Nat.zero_le _,fun j hj=>by omega⟩ ?_ zy.none ?_
 ·simp(maxSteps:=400000) only[go_sem,↓zj]
  try exact rfl
 ·intro ck i hck hI
  obtain⟨hi,hb⟩:=hI
  generalize hq0:exC _ _ _ _ _=gg
  by_cases hlt:i < r.complaints.length
  ·have hd:decide ((i:Int) < (r.complaints.length:Int))=true:=decide_eq_true (by omega)
   have hem:el (r.complaints.map (·.name)) i=(el r.complaints i).name:=vD (f:=(·.name)) r.complaints hlt
   rw[← hq0]
   clear hq0
   simp(maxSteps:=400000) only[go_sem,↓zj,hd,zt,zf,zP]
   refine⟨⟨by omega,by omega⟩,fun h=>zo.of_eq ?_,fun h=>⟨zn (by omega) (by omega),i+1,⟨hlt,fun j hj=>?_⟩,by omega,rfl,zy.none⟩⟩
   ·rw[zc3 (by rw[List.length_map];exact hlt) (hem.trans h) hb]
   ·by_cases e:j=i
    ·subst e;rw[hem];exact h
    ·exact hb j (by omega)
  ·have hd:decide ((i:Int) < (r.complaints.length:Int))=false:=decide_eq_false (by omega)
   obtain rfl:i=r.complaints.length:=by omega
   rw[← hq0]
   clear hq0
   simp(maxSteps:=400000) only[go_sem,↓zj,hd]
   rw[jS fun j hj=>hb j (by rw[List.length_map] at hj;exact hj)]
   exact zo.of_eq rfl
theorem zla:Holds prog G0 231 kG:=by
 refine Holds.of_exC D231 func231 rfl zK (by kernel_rfl) (tab [(28,yd 104),(43,yd 109),(50,yd 116),(142,yd 111),(143,yd 99),(191,yd 102),(zm 3,zG)]) (zk ⟨zbI,zl9,zak,qZ,ka,qj,za,trivial⟩) zw fun k0 rl args hpu hpre=>?_
 unfold kG at hpre ⊢
 obtain⟨r,w,s,rfl,hr⟩:=hpre
 simp only[zE,zV,zb3,zq,zN,zF]
 have hW:∀ c,decide (0≤zd5 (r.namesOf c) s)=decide (s∈r.namesOf c):=fun c=>zd4
 have fin:∀ c,zg9 w=c→(∃ r_1 s_1,[V.agg (zt r),.str s]=[.agg (zt r_1),.str s_1]∧RL r_1)∧zo (.bool (decide (s∈r.namesOf c))) (.bool (decide (s∈r.namesOf (zg9 w)))):=fun c h=>⟨⟨r,s,rfl,hr⟩,zo.of_eq (by rw[h])⟩
 simp only[f231]
 rw[zb (Nat.le_of_ble_eq_true rfl)]
 simp(maxSteps:=4000000) only[go_sem,↓zj,hW]
 refine⟨fun a1=>⟨fun b1=>fin 116 ?_,fun b1=>⟨fun a2=>⟨fun b2=>fin 104 ?_,fun b2=>⟨fun a3=>⟨fun b3=>fin 102 ?_,fun b3=>⟨fun a4=>fin 109 ?_,fun a4=>⟨fun a5=>⟨fun b5=>fin 111 ?_,fun b5=>fin 99 ?_⟩,fun a5=>fin 111 ?_⟩⟩⟩,fun a3=>fin 102 ?_⟩⟩,fun a2=>fin 104 ?_⟩⟩,fun a1=>fin 116 ?_⟩
 all_goals (unfold zg9;simp[*])
theorem zeS:Holds prog G0 17 zkA:=by
 refine Holds.of_exC D17 func17 rfl zK (by kernel_rfl) (tab [(zm 1,zG)]) (zk ⟨za,trivial⟩) zw fun k0 rl args hpu hpre=>?_
 unfold zkA at hpre ⊢
 obtain⟨e,rfl,he⟩:=hpre
 simp only[zE,zq,wH]
 have h1:=he.names
 have h2:=he.vals
 have h3:=he.kind
 have h4:=he.text
 simp only[f17]
 rw[zb (Nat.le_of_ble_eq_true rfl)]
 simp(maxSteps:=4000000) only[go_sem,↓zj,encEv,zg,zh]
 refine zB.loopF (β:=Nat) [(2,17)] (fun i=>[(3,.int .i64 i)]) (fun _=>fun _=>none) (fun i=>i≤e.names.length∧∀ j,j < i→(el e.names j).length≤40) (fun i=>e.names.length - i) 0 ⟨Nat.zero_le _,fun j hj=>absurd hj (Nat.not_lt_zero _)⟩ ?_ zy.none ?_
 ·simp(maxSteps:=400000) only[go_sem,↓zj]
  try exact rfl
 ·intro ck i hck hI
  obtain⟨hi,hf⟩:=hI
  have hi:i≤e.names.length:=hi
  generalize hq0:exC _ _ _ _ _=gg
  by_cases hlt:i < e.names.length
  ·have hd:decide ((i:Int) < (e.names.length:Int))=true:=decide_eq_true (by omega)
   have hs:=he.strs _ (wd hlt)
   by_cases h40:(el e.names i).length≤40
   ·have d40:decide ((40:Int) < ((el e.names i).length:Int))=false:=decide_eq_false (by omega)
    rw[← hq0]
    clear hq0
    simp(maxSteps:=400000) only[go_sem,↓zj,↓reduceIte,hd,d40]
    refine⟨⟨by omega,by omega⟩,zn (by omega) (by omega),i+1,⟨hlt,fun j hj=>?_⟩,by omega,rfl,zy.none⟩
    by_cases e2:j=i
    ·subst e2;exact h40
    ·exact hf j (by omega)
   ·have d40:decide ((40:Int) < ((el e.names i).length:Int))=true:=decide_eq_true (by omega)
    rw[← hq0]
    clear hq0
    simp(maxSteps:=400000) only[go_sem,↓zj,↓reduceIte,hd,d40]
    rw[zkz hlt h40]
    exact⟨⟨by omega,by omega⟩,zo.of_eq rfl⟩
  ·have hd:decide ((i:Int) < (e.names.length:Int))=false:=decide_eq_false (by omega)
   obtain rfl:i=e.names.length:=by omega
   have hall:=zj6 hf
   have e1:vJ e=(decide (e.names.length≤3) && decide (e.vals.length≤3) && decide (e.kind.length≤40) && decide (e.text.length≤40)):=by unfold vJ;rw[hall,Bool.true_and]
   have x1:decide ((e.names.length:Int)≤3)=decide (e.names.length≤3):=decide_eq_decide.2 (by omega)
   have x2:decide ((e.vals.length:Int)≤3)=decide (e.vals.length≤3):=decide_eq_decide.2 (by omega)
   have x3:decide ((e.kind.length:Int)≤40)=decide (e.kind.length≤40):=decide_eq_decide.2 (by omega)
   have x4:decide ((e.text.length:Int)≤40)=decide (e.text.length≤40):=decide_eq_decide.2 (by omega)
   rw[← hq0]
   clear hq0
   rw[e1]
   cases y1:decide (e.names.length≤3) <;> cases y2:decide (e.vals.length≤3) <;> cases y3:decide (e.kind.length≤40) <;> cases y4:decide (e.text.length≤40)
   all_goals
    simp(maxSteps:=400000) only[go_sem,↓zj,↓reduceIte,hd,x1,x2,x3,x4,y1,y2,y3,y4]
    exact zo.of_eq rfl
theorem zjj:Holds prog G0 16 zht:=by
 refine Holds.of_exC D16 func16 rfl zK (by kernel_rfl) (tab [(17,zkA)]) (zk ⟨zeS,trivial⟩) zw fun k0 rl args hpu hpre=>?_
 unfold zht at hpre ⊢
 obtain⟨l,n,rfl,hn,hE⟩:=hpre
 simp only[zE,zV,wv,wF]
 simp only[f16]
 rw[zb (Nat.le_of_ble_eq_true rfl)]
 simp(maxSteps:=4000000) only[go_sem,↓zj,zf]
 refine zB.loopF (β:=Nat) [(4,17)] (fun i=>[(5,.int .i64 i)]) (fun _=>fun _=>none) (fun i=>i≤l.length∧∀ j,j < i→vJ (el l j)=true) (fun i=>l.length - i) 0 ⟨Nat.zero_le _,fun j hj=>absurd hj (Nat.not_lt_zero _)⟩ ?_ zy.none ?_
 ·simp(maxSteps:=400000) only[go_sem,↓zj]
  try exact rfl
 ·intro ck i hck hI
  obtain⟨hi,hf⟩:=hI
  have hi:i≤l.length:=hi
  generalize hq0:exC _ _ _ _ _=gg
  by_cases hlt:i < l.length
  ·have hd:decide ((i:Int) < (l.length:Int))=true:=decide_eq_true (by omega)
   have hs:=hE _ (wd hlt)
   cases hsh:vJ (el l i) with
   | true =>
     rw[← hq0]
     clear hq0
     simp(maxSteps:=400000) only[go_sem,↓zj,↓reduceIte,hd,hsh,encEv]
     refine⟨⟨by omega,by omega⟩,⟨el l i,rfl,hs⟩,zn (by omega) (by omega),i+1,⟨hlt,fun j hj=>?_⟩,by omega,rfl,zy.none⟩
     by_cases e2:j=i
     ·subst e2;exact hsh
     ·exact hf j (by omega)
   | false =>
     rw[← hq0]
     clear hq0
     simp(maxSteps:=400000) only[go_sem,↓zj,↓reduceIte,hd,hsh,encEv]
     rw[zj5 hlt hsh]
     exact⟨⟨by omega,by omega⟩,⟨el l i,rfl,hs⟩,zo.of_eq rfl⟩
  ·have hd:decide ((i:Int) < (l.length:Int))=false:=decide_eq_false (by omega)
   obtain rfl:i=l.length:=by omega
   have hall:=zgg hf
   rw[← hq0]
   clear hq0
   simp(maxSteps:=400000) only[go_sem,↓zj,↓reduceIte,hd]
   exact zo.of_eq (by unfold jE;rw[hall,Bool.true_and])
theorem zm9:Holds prog G0 19 zlw:=by
 refine Holds.of_exC D19 func19 rfl zK (by kernel_rfl) (tab []) (zk trivial) zw fun k0 rl args hpu hpre=>?_
 unfold zlw at hpre ⊢
 obtain⟨e,rfl,he⟩:=hpre
 simp only[zE,zq,wH]
 have h1:=he.names
 have h2:=he.vals
 simp only[f19]
 rw[zb (Nat.le_of_ble_eq_true rfl)]
 simp(maxSteps:=4000000) only[go_sem,↓zj,↓reduceIte,encEv,zg,zh]
 refine⟨⟨by omega,by omega⟩,⟨by omega,by omega⟩,?_⟩
 simp only[Nat.not_lt_zero,if_false,Nat.sub_zero,Nat.zero_add]
 exact zo.refl _
theorem zoa:Holds prog G0 22 zo9:=by
 refine Holds.of_exC D22 func22 rfl zK (by kernel_rfl) (tab [(19,zlw)]) (zk ⟨zm9,trivial⟩) zw fun k0 rl args hpu hpre=>?_
 unfold zo9 at hpre ⊢
 obtain⟨l,rfl,hn,hE⟩:=hpre
 simp only[zE,wF]
 simp only[f22]
 rw[zb (Nat.le_of_ble_eq_true rfl)]
 simp(maxSteps:=4000000) only[go_sem,↓zj,zf]
 refine zB.ents (wu.nilArr (d:=3) (l:=(4,1000)) 5 (fun _=>[]) rfl rfl rfl) ?_
 simp(maxSteps:=400000) only[go_sem,↓zj]
 refine zB.loopF (β:=Nat) [(3,3),(5,5),(8,17)] (fun i=>[(3,.msl (4,1000) 0 i),(8,.int .i64 i)]) (fun i=>updH (fun _=>none) (4,1000) (.arr i 5 fun j=>encEv (el l j))) (fun i=>i≤l.length) (fun i=>l.length - i) 0 (Nat.zero_le _) ?_ (zy.same ⟨rfl,rfl,fun i hi=>absurd hi (Nat.not_lt_zero i)⟩) ?_
 ·simp(maxSteps:=400000) only[go_sem,↓zj]
  try exact rfl
 ·intro c i hck hi
  have hi:i≤l.length:=hi
  generalize hq0:exC _ _ _ _ _=gg
  by_cases hlt:i < l.length
  ·have hd:decide ((i:Int) < (l.length:Int))=true:=by simp;omega
   have hB:=hE _ (wd hlt)
   have hde:zI [.int .i64 (el l i).num,.str (el l i).kind,zg (el l i).names,zh (el l i).vals,.str (el l i).text]=el l i:=wH _
   rw[← hq0]
   clear hq0
   simp(maxSteps:=400000) only[go_sem,↓zj,↓reduceIte,hd,encEv,hde]
   exact⟨⟨by omega,by omega⟩,⟨el l i,rfl,hB⟩,⟨by omega,by omega,evRow (el l i)⟩,zn (by omega) (by omega),i+1,hlt,by omega,⟨rfl,rfl⟩,zy.arr1 (zd _ _ _) rfl rfl fun j hj=>snoc (f:=fun j=>encEv (el l j)) rfl rfl hj⟩
  ·have hd:decide ((i:Int) < (l.length:Int))=false:=by simp;omega
   obtain rfl:i=l.length:=by omega
   rw[← hq0]
   clear hq0
   simp(maxSteps:=400000) only[go_sem,↓zj,hd]
   rw[if_pos (Nat.zero_add _)]
   exact zo.of_eq (by simp only[Nat.zero_add])
theorem zl6:Holds prog G0 92 zhs:=by
 refine Holds.of_exC D92 func92 rfl zK (by kernel_rfl) (tab []) (zk trivial) zw fun k0 rl args hpu hpre=>?_
 unfold zhs at hpre ⊢
 obtain⟨s,rfl⟩:=hpre
 simp only[zE,zF]
 cases hk:kindOf s with
 | none =>
   have D:=zmf hk
   have hs:qf s=(0,0,false):=by unfold qf;rw[hk]
   rw[hs]
   simp only[f92]
   rw[zb (Nat.le_of_ble_eq_true rfl)]
   simp(maxSteps:=4000000) only[go_sem,↓zj,↓reduceIte,D,kdB]
   exact zo.of_eq rfl
 | some k =>
   have hs:qf s=(((k.letters.length:Nat):Int),((k.values:Nat):Int),true):=by unfold qf;rw[hk]
   rw[hs]
   have D:=ze2 hk
   cases k
   case type =>
    simp only[f92]
    rw[zb (Nat.le_of_ble_eq_true rfl)]
    simp(maxSteps:=4000000) only[go_sem,↓zj,↓reduceIte,D,kdB]
    exact zo.of_eq rfl
   case house =>
    simp only[f92]
    rw[zb (Nat.le_of_ble_eq_true rfl)]
    simp(maxSteps:=4000000) only[go_sem,↓zj,↓reduceIte,D,kdB]
    exact zo.of_eq rfl
   case flight =>
    simp only[f92]
    rw[zb (Nat.le_of_ble_eq_true rfl)]
    simp(maxSteps:=4000000) only[go_sem,↓zj,↓reduceIte,D,kdB]
    exact zo.of_eq rfl
   case match_ =>
    simp only[f92]
    rw[zb (Nat.le_of_ble_eq_true rfl)]
    simp(maxSteps:=4000000) only[go_sem,↓zj,↓reduceIte,D,kdB]
    exact zo.of_eq rfl
   case correct =>
    simp only[f92]
    rw[zb (Nat.le_of_ble_eq_true rfl)]
    simp(maxSteps:=4000000) only[go_sem,↓zj,↓reduceIte,D,kdB]
    exact zo.of_eq rfl
   case publish =>
    simp only[f92]
    rw[zb (Nat.le_of_ble_eq_true rfl)]
    simp(maxSteps:=4000000) only[go_sem,↓zj,↓reduceIte,D,kdB]
    exact zo.of_eq rfl
   case offer =>
    simp only[f92]
    rw[zb (Nat.le_of_ble_eq_true rfl)]
    simp(maxSteps:=4000000) only[go_sem,↓zj,↓reduceIte,D,kdB]
    exact zo.of_eq rfl
   case fund =>
    simp only[f92]
    rw[zb (Nat.le_of_ble_eq_true rfl)]
    simp(maxSteps:=4000000) only[go_sem,↓zj,↓reduceIte,D,kdB]
    exact zo.of_eq rfl
   case pay =>
    simp only[f92]
    rw[zb (Nat.le_of_ble_eq_true rfl)]
    simp(maxSteps:=4000000) only[go_sem,↓zj,↓reduceIte,D,kdB]
    exact zo.of_eq rfl
   case complain =>
    simp only[f92]
    rw[zb (Nat.le_of_ble_eq_true rfl)]
    simp(maxSteps:=4000000) only[go_sem,↓zj,↓reduceIte,D,kdB]
    exact zo.of_eq rfl
   case answer =>
    simp only[f92]
    rw[zb (Nat.le_of_ble_eq_true rfl)]
    simp(maxSteps:=4000000) only[go_sem,↓zj,↓reduceIte,D,kdB]
    exact zo.of_eq rfl
   case dismiss =>
    simp only[f92]
    rw[zb (Nat.le_of_ble_eq_true rfl)]
    simp(maxSteps:=4000000) only[go_sem,↓zj,↓reduceIte,D,kdB]
    exact zo.of_eq rfl
   case undo =>
    simp only[f92]
    rw[zb (Nat.le_of_ble_eq_true rfl)]
    simp(maxSteps:=4000000) only[go_sem,↓zj,↓reduceIte,D,kdB]
    exact zo.of_eq rfl
theorem zl7:Holds prog G0 230 zi9:=by
 refine Holds.of_exC D230 func230 rfl zK (by kernel_rfl) (tab [(zm 11,zG),(zm 14,zG),(zm 17,zG),(zm 20,zG),(zm 23,zG),(zm 26,zG),(zm 29,zG),(zm 32,zG),(zm 35,zG),(zm 38,zG)]) (zk ⟨za,za,za,za,za,za,za,za,za,za,trivial⟩) zw fun k0 rl args hpu hpre=>?_
 unfold zi9 at hpre ⊢
 obtain⟨s,rfl⟩:=hpre
 simp only[zE,zF]
 cases hk:kindOf s with
 | none =>
   have D:=zmf hk
   have hs:zbT s=[]:=by unfold zbT;rw[hk]
   rw[hs]
   simp only[f230]
   rw[zb (Nat.le_of_ble_eq_true rfl)]
   simp(maxSteps:=4000000) only[go_sem,↓zj,↓reduceIte,D,kdB]
   exact zo.nils 1 _
 | some k =>
   have hs:zbT s=j8 k:=by unfold zbT;rw[hk]
   rw[hs]
   have hst:=kZ hk
   have D:=ze2 hk
   cases k
   case type =>
    simp only[f230]
    rw[zb (Nat.le_of_ble_eq_true rfl)]
    simp(maxSteps:=4000000) only[go_sem,↓zj,↓reduceIte,D,kdB]
    subst hst
    exact⟨by decide,wP (l:=j8 .type) rfl fun i hi=>by
     have hi:i < 1:=hi
     obtain rfl:i=0:=by omega
     rfl⟩
   case house =>
    simp only[f230]
    rw[zb (Nat.le_of_ble_eq_true rfl)]
    simp(maxSteps:=4000000) only[go_sem,↓zj,↓reduceIte,D,kdB]
    subst hst
    exact⟨by decide,wP (l:=j8 .house) rfl fun i hi=>by
     have hi:i < 1:=hi
     obtain rfl:i=0:=by omega
     rfl⟩
   case flight =>
    simp only[f230]
    rw[zb (Nat.le_of_ble_eq_true rfl)]
    simp(maxSteps:=4000000) only[go_sem,↓zj,↓reduceIte,D,kdB]
    exact wP (l:=[_,_]) rfl fun i hi=>by
     have hi:i < 2:=hi
     have:i=0∨i=1:=by omega
     rcases this with rfl | rfl <;> rfl
   case match_ =>
    simp only[f230]
    rw[zb (Nat.le_of_ble_eq_true rfl)]
    simp(maxSteps:=4000000) only[go_sem,↓zj,↓reduceIte,D,kdB]
    exact wP (l:=[_]) rfl fun i hi=>by
     have hi:i < 1:=hi
     obtain rfl:i=0:=by omega
     rfl
   case correct =>
    simp only[f230]
    rw[zb (Nat.le_of_ble_eq_true rfl)]
    simp(maxSteps:=4000000) only[go_sem,↓zj,↓reduceIte,D,kdB]
    exact wP (l:=[_]) rfl fun i hi=>by
     have hi:i < 1:=hi
     obtain rfl:i=0:=by omega
     rfl
   case publish =>
    simp only[f230]
    rw[zb (Nat.le_of_ble_eq_true rfl)]
    simp(maxSteps:=4000000) only[go_sem,↓zj,↓reduceIte,D,kdB]
    exact wP (l:=[_]) rfl fun i hi=>by
     have hi:i < 1:=hi
     obtain rfl:i=0:=by omega
     rfl
   case offer =>
    simp only[f230]
    rw[zb (Nat.le_of_ble_eq_true rfl)]
    simp(maxSteps:=4000000) only[go_sem,↓zj,↓reduceIte,D,kdB]
    exact wP (l:=[_,_]) rfl fun i hi=>by
     have hi:i < 2:=hi
     have:i=0∨i=1:=by omega
     rcases this with rfl | rfl <;> rfl
   case fund =>
    simp only[f230]
    rw[zb (Nat.le_of_ble_eq_true rfl)]
    simp(maxSteps:=4000000) only[go_sem,↓zj,↓reduceIte,D,kdB]
    exact zo.nils 1 _
   case pay =>
    simp only[f230]
    rw[zb (Nat.le_of_ble_eq_true rfl)]
    simp(maxSteps:=4000000) only[go_sem,↓zj,↓reduceIte,D,kdB]
    exact wP (l:=[_]) rfl fun i hi=>by
     have hi:i < 1:=hi
     obtain rfl:i=0:=by omega
     rfl
   case complain =>
    simp only[f230]
    rw[zb (Nat.le_of_ble_eq_true rfl)]
    simp(maxSteps:=4000000) only[go_sem,↓zj,↓reduceIte,D,kdB]
    exact wP (l:=[_,_]) rfl fun i hi=>by
     have hi:i < 2:=hi
     have:i=0∨i=1:=by omega
     rcases this with rfl | rfl <;> rfl
   case answer =>
    simp only[f230]
    rw[zb (Nat.le_of_ble_eq_true rfl)]
    simp(maxSteps:=4000000) only[go_sem,↓zj,↓reduceIte,D,kdB]
    exact wP (l:=[_,_]) rfl fun i hi=>by
     have hi:i < 2:=hi
     have:i=0∨i=1:=by omega
     rcases this with rfl | rfl <;> rfl
   case dismiss =>
    simp only[f230]
    rw[zb (Nat.le_of_ble_eq_true rfl)]
    simp(maxSteps:=4000000) only[go_sem,↓zj,↓reduceIte,D,kdB]
    exact wP (l:=[_]) rfl fun i hi=>by
     have hi:i < 1:=hi
     obtain rfl:i=0:=by omega
     rfl
   case undo =>
    simp only[f230]
    rw[zb (Nat.le_of_ble_eq_true rfl)]
    simp(maxSteps:=4000000) only[go_sem,↓zj,↓reduceIte,D,kdB]
    exact zo.nils 1 _
theorem zbJ:Holds prog G0 20 jp:=by
 refine Holds.of_exC D20 func20 rfl zK (by kernel_rfl) (tab [(29,w7),(30,yf),(49,yb),(92,zhs),(93,qM),(zm 1,zG)]) (zk ⟨kJ,jI,zeX,zl6,zdK,za,trivial⟩) zw fun k0 rl args hpu hpre=>?_
 unfold jp at hpre ⊢
 obtain⟨e,rfl,he⟩:=hpre
 simp only[zE,zq,wH]
 have h1:=he.names
 have h2:=he.vals
 by_cases c0:rng e.num 1 1000=0
 ·have d0:decide (rng e.num 1 1000=0)=true:=decide_eq_true c0
  cases hk:kindOf e.kind with
  | none =>
    rw[zmT c0 hk]
    have f13:∀ b,zv [err true 13,b]=13:=fun b=>rfl
    have hs:qf e.kind=(0,0,false):=by unfold qf;rw[hk]
    simp only[f20]
    rw[zb (Nat.le_of_ble_eq_true rfl)]
    simp(maxSteps:=4000000) only[go_sem,↓zj,↓reduceIte,encEv,zg,zh,d0,hs,f13]
    exact⟨⟨_,rfl⟩,fun _=>zo.refl _,fun _=>zo.refl _⟩
  | some k =>
    rw[zfM c0 hk]
    have hs:qf e.kind=(((k.letters.length:Nat):Int),((k.values:Nat):Int),true):=by unfold qf;rw[hk]
    by_cases c1:e.names.length=k.letters.length
    ·have x1:decide ((e.names.length:Int)=(k.letters.length:Int))=true:=decide_eq_true (by omega)
     by_cases c2:e.vals.length=k.values
     ·have x2:decide ((e.vals.length:Int)=(k.values:Int))=true:=decide_eq_true (by omega)
      have f0:zv [err false 13,err false 2]=0:=rfl
      have hx:err (decide (e.names.length≠k.letters.length) || decide (e.vals.length≠k.values)) 2=0:=by
       rw[decide_eq_false (fun q=>q c1),decide_eq_false (fun q=>q c2)]
       rfl
      rw[wT,if_neg (fun q=>q hx)]
      obtain⟨rest,hrest⟩:∃ rest,rest=e.vals.map (fun v=>rng v 0 999999999)++[err (decide (e.text≠[])) 1]:=⟨_,rfl⟩
      rw[← hrest]
      simp only[f20]
      rw[zb (Nat.le_of_ble_eq_true rfl)]
      simp(maxSteps:=4000000) only[go_sem,↓zj,↓reduceIte,encEv,zg,zh,d0,hs,x1,x2,f0]
      refine⟨⟨_,rfl⟩,?_⟩
      refine zB.loopF (β:=Nat) [(2,2),(8,9),(46,61)] (fun i=>[(8,.int .i64 i)]) (fun _=>fun _=>none) (fun i=>i≤e.names.length∧∀ j,j < i→err (!nameB (el e.names j)) 8=0) (fun i=>e.names.length - i) 0 ⟨Nat.zero_le _,fun j hj=>absurd hj (Nat.not_lt_zero _)⟩ ?_ zy.none ?_
      ·simp(maxSteps:=400000) only[go_sem,↓zj]
       try exact rfl
      ·intro ck i hck hI
       obtain⟨hi,hf⟩:=hI
       have hi:i≤e.names.length:=hi
       generalize hq0:exC _ _ _ _ _=gg
       by_cases hlt:i < e.names.length
       ·have hd:decide ((i:Int) < (e.names.length:Int))=true:=decide_eq_true (by omega)
        have hsl:=he.strs _ (wd hlt)
        by_cases hn:err (!nameB (el e.names i)) 8=0
        ·have dn:decide (err (!nameB (el e.names i)) 8=0)=true:=decide_eq_true hn
         rw[← hq0]
         clear hq0
         simp(maxSteps:=400000) only[go_sem,↓zj,↓reduceIte,hd,dn]
         refine⟨⟨by omega,by omega⟩,hsl,zn (by omega) (by omega),by omega,i+1,⟨hlt,fun j hj=>?_⟩,by omega,rfl,zy.none⟩
         by_cases e2:j=i
         ·subst e2;exact hn
         ·exact hf j (by omega)
        ·have dn:decide (err (!nameB (el e.names i)) 8=0)=false:=decide_eq_false hn
         rw[← hq0]
         clear hq0
         rw[zc8 (f:=fun s=>err (!nameB s) 8) hf hlt hn]
         simp(maxSteps:=400000) only[go_sem,↓zj,↓reduceIte,hd,dn]
         exact⟨⟨by omega,by omega⟩,hsl,zo.refl _⟩
       ·have hd:decide ((i:Int) < (e.names.length:Int))=false:=decide_eq_false (by omega)
        obtain rfl:i=e.names.length:=by omega
        rw[← hq0]
        clear hq0
        rw[kd (f:=fun s=>err (!nameB s) 8) hf,hrest]
        simp(maxSteps:=400000) only[go_sem,↓zj,↓reduceIte,hd]
        refine zB.loopF (β:=Nat) [(2,2),(10,11),(62,77)] (fun i=>[(10,.int .i64 i)]) (fun _=>fun _=>none) (fun i=>i≤e.vals.length∧∀ j,j < i→rng (el e.vals j) 0 999999999=0) (fun i=>e.vals.length - i) 0 ⟨Nat.zero_le _,fun j hj=>absurd hj (Nat.not_lt_zero _)⟩ ?_ zy.none ?_
        ·simp(maxSteps:=400000) only[go_sem,↓zj]
         try exact rfl
        ·intro ck2 i hck2 hI2
         obtain⟨hi2,hf2⟩:=hI2
         have hi2:i≤e.vals.length:=hi2
         generalize hq1:exC _ _ _ _ _=gg
         by_cases hlt2:i < e.vals.length
         ·have hd2:decide ((i:Int) < (e.vals.length:Int))=true:=decide_eq_true (by omega)
          by_cases hn:rng (el e.vals i) 0 999999999=0
          ·have dn:decide (rng (el e.vals i) 0 999999999=0)=true:=decide_eq_true hn
           rw[← hq1]
           clear hq1
           simp(maxSteps:=400000) only[go_sem,↓zj,↓reduceIte,hd2,dn]
           refine⟨⟨by omega,by omega⟩,zn (by omega) (by omega),by omega,i+1,⟨hlt2,fun j hj=>?_⟩,by omega,rfl,zy.none⟩
           by_cases e2:j=i
           ·subst e2;exact hn
           ·exact hf2 j (by omega)
          ·have dn:decide (rng (el e.vals i) 0 999999999=0)=false:=decide_eq_false hn
           rw[← hq1]
           clear hq1
           rw[zc8 (f:=fun v=>rng v 0 999999999) hf2 hlt2 hn]
           simp(maxSteps:=400000) only[go_sem,↓zj,↓reduceIte,hd2,dn]
           exact⟨⟨by omega,by omega⟩,zo.refl _⟩
         ·have hd2:decide ((i:Int) < (e.vals.length:Int))=false:=decide_eq_false (by omega)
          obtain rfl:i=e.vals.length:=by omega
          rw[← hq1]
          clear hq1
          rw[kd (f:=fun v=>rng v 0 999999999) hf2]
          simp(maxSteps:=400000) only[go_sem,↓zj,↓reduceIte,hd2]
          have hz:zv [err (decide (e.text≠[])) 1]=err (!decide (e.text=[])) 1:=by by_cases q:e.text=[] <;> simp[q,zv,err]
          exact zo.of_eq (congrArg (V.int .i64) hz.symm)
     ·have x2:decide ((e.vals.length:Int)=(k.values:Int))=false:=decide_eq_false (by omega)
      have f2:zv [err false 13,err true 2]=2:=rfl
      have hx:err (decide (e.names.length≠k.letters.length) || decide (e.vals.length≠k.values)) 2=2:=by
       rw[decide_eq_true c2,Bool.or_true]
       rfl
      rw[wT,hx,if_pos (by decide)]
      simp only[f20]
      rw[zb (Nat.le_of_ble_eq_true rfl)]
      simp(maxSteps:=4000000) only[go_sem,↓zj,↓reduceIte,encEv,zg,zh,d0,hs,x1,x2,f2]
      exact⟨⟨_,rfl⟩,zo.refl _⟩
    ·have x1:decide ((e.names.length:Int)=(k.letters.length:Int))=false:=decide_eq_false (by omega)
     have f2:zv [err false 13,err true 2]=2:=rfl
     have hx:err (decide (e.names.length≠k.letters.length) || decide (e.vals.length≠k.values)) 2=2:=by
      rw[decide_eq_true c1,Bool.true_or]
      rfl
     rw[wT,hx,if_pos (by decide)]
     simp only[f20]
     rw[zb (Nat.le_of_ble_eq_true rfl)]
     simp(maxSteps:=4000000) only[go_sem,↓zj,↓reduceIte,encEv,zg,zh,d0,hs,x1,f2]
     exact⟨⟨_,rfl⟩,zo.refl _⟩
 ·have d0:decide (rng e.num 1 1000=0)=false:=decide_eq_false c0
  rw[zk0 c0]
  simp only[f20]
  rw[zb (Nat.le_of_ble_eq_true rfl)]
  simp(maxSteps:=4000000) only[go_sem,↓zj,↓reduceIte,encEv,zg,zh,d0]
  exact zo.of_eq rfl
end Go.Fly.Tryz
end
