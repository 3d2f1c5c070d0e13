/- Part of a proof. No conditions. -/
import Derived.Test.YtkfbgillhhhdgaaGreatDoorSYOEn
import Derived.Test.YtkfbgillhhhdgaaGreatDoorAL
set_option linter.unusedSimpArgs false
set_option linter.unusedVariables false
section
set_option maxRecDepth 100000
set_option maxHeartbeats 1000000
namespace Go.Fly.Tryz
open Go Off Go.Proofs.Tryz
theorem wx:Holds prog G0 86 yf:=by
 refine Holds.of_exC D86 func86 rfl zK (by kernel_rfl) (tab []) (zk trivial) zw fun k0 rl args hpu hpre=>?_
 unfold yf at hpre ⊢
 split at hpre
 rotate_left
 ·exact hpre.elim
 simp only[f86]
 simp(maxSteps:=4000000) only[go_sem,↓zj]
 exact⟨fun h=>zo.of_eq (by simp[h,err]),fun h=>zo.of_eq (by simp[h,err])⟩
theorem yh:Holds prog G0 85 yb:=by
 refine Holds.of_exC D85 func85 rfl zK (by kernel_rfl) (tab [(86,yf)]) (zk ⟨wx,trivial⟩) zw fun k0 rl args hpu hpre=>?_
 unfold yb at hpre ⊢
 split at hpre
 rotate_left
 ·exact hpre.elim
 simp only[f85]
 simp(maxSteps:=4000000) only[go_sem,↓zj]
 exact⟨fun h=>zo.of_eq (by simp[h,err,rng]),fun h=>zo.of_eq (by simp[h,err,rng])⟩
theorem wB:Holds prog G0 84 w7:=by
 refine Holds.of_exC D84 func84 rfl zK (by kernel_rfl) (tab []) (zk trivial) zw fun k0 rl args hpu hpre=>?_
 unfold w7 at hpre ⊢
 split at hpre
 rotate_left
 ·exact hpre.elim
 rename_i n sz get
 obtain⟨rfl,hn,hget⟩:=hpre
 simp only[f84]
 rw[zb (Nat.le_of_ble_eq_true rfl)]
 simp(maxSteps:=4000000) only[go_sem,↓zj]
 refine zB.loopF (β:=Nat) [(2,2),(4,4),(7,14)] (fun i=>[(7,.int .i64 i)]) (fun _=>fun _=>none) (fun i=>i≤n∧yZ (vR get) 0 n=yZ (vR get) i (n - i)) (fun i=>n - i) 0 ⟨by omega,by simp⟩ ?_ zy.none ?_
 ·simp(maxSteps:=4000000) only[go_sem,↓zj]
  try simp
 ·intro ck i hck hI
  have hi:=hI.1
  have hf:=hI.2
  simp(maxSteps:=4000000) only[go_sem,↓zj]
  refine⟨fun hlt=>?_,fun hge=>?_⟩
  ·have hlt:i < n:=by omega
   have hg:=hget i hlt
   rw[zc9 hlt] at hf
   simp(maxSteps:=4000000) only[go_sem,↓zj,hg]
   refine⟨by omega,fun h=>zo.of_eq ?_,fun h=>⟨zn (by omega) (by omega),i+1,⟨by omega,?_⟩,by omega,rfl,zy.none⟩⟩
   ·simp at h
    rw[hf,if_pos h]
   ·simp at h
    rw[hf,if_neg (by simpa using h)]
  ·rw[hf,zd6 (by omega)]
   exact zo.of_eq rfl
theorem zhU:Holds prog G0 234 (nmC wg qb Ty.name):=by
 refine Holds.of_exC D234 func234 rfl zK (by kernel_rfl) (tab [(zm 1,zG)]) (zk ⟨za,trivial⟩) zw fun k0 rl args hpu hpre=>?_
 unfold nmC at hpre ⊢
 obtain⟨t,rfl⟩:=hpre
 simp only[f234]
 rw[zb (Nat.le_of_ble_eq_true rfl)]
 simp(maxSteps:=4000000) only[go_sem,↓zj,wg]
 exact zo.of_eq rfl
theorem zhX:Holds prog G0 236 (nmC zZ jj Ho.name):=by
 refine Holds.of_exC D236 func236 rfl zK (by kernel_rfl) (tab [(zm 1,zG)]) (zk ⟨za,trivial⟩) zw fun k0 rl args hpu hpre=>?_
 unfold nmC at hpre ⊢
 obtain⟨t,rfl⟩:=hpre
 simp only[f236]
 rw[zb (Nat.le_of_ble_eq_true rfl)]
 simp(maxSteps:=4000000) only[go_sem,↓zj,zZ]
 exact zo.of_eq rfl
theorem zhY:Holds prog G0 238 (nmC zM qc Fl.name):=by
 refine Holds.of_exC D238 func238 rfl zK (by kernel_rfl) (tab [(zm 1,zG)]) (zk ⟨za,trivial⟩) zw fun k0 rl args hpu hpre=>?_
 unfold nmC at hpre ⊢
 obtain⟨t,rfl⟩:=hpre
 simp only[f238]
 rw[zb (Nat.le_of_ble_eq_true rfl)]
 simp(maxSteps:=4000000) only[go_sem,↓zj,zM]
 exact zo.of_eq rfl
theorem zhW:Holds prog G0 240 (nmC wq za8 Mp.name):=by
 refine Holds.of_exC D240 func240 rfl zK (by kernel_rfl) (tab [(zm 1,zG)]) (zk ⟨za,trivial⟩) zw fun k0 rl args hpu hpre=>?_
 unfold nmC at hpre ⊢
 obtain⟨t,rfl⟩:=hpre
 simp only[f240]
 rw[zb (Nat.le_of_ble_eq_true rfl)]
 simp(maxSteps:=4000000) only[go_sem,↓zj,wq]
 exact zo.of_eq rfl
theorem zhV:Holds prog G0 242 (nmC zX qy Of.name):=by
 refine Holds.of_exC D242 func242 rfl zK (by kernel_rfl) (tab [(zm 1,zG)]) (zk ⟨za,trivial⟩) zw fun k0 rl args hpu hpre=>?_
 unfold nmC at hpre ⊢
 obtain⟨t,rfl⟩:=hpre
 simp only[f242]
 rw[zb (Nat.le_of_ble_eq_true rfl)]
 simp(maxSteps:=4000000) only[go_sem,↓zj,zX]
 exact zo.of_eq rfl
theorem zhZ:Holds prog G0 243 (nmC zP jl Co.name):=by
 refine Holds.of_exC D243 func243 rfl zK (by kernel_rfl) (tab [(zm 1,zG)]) (zk ⟨za,trivial⟩) zw fun k0 rl args hpu hpre=>?_
 unfold nmC at hpre ⊢
 obtain⟨t,rfl⟩:=hpre
 simp only[f243]
 rw[zb (Nat.le_of_ble_eq_true rfl)]
 simp(maxSteps:=4000000) only[go_sem,↓zj,zP]
 exact zo.of_eq rfl
theorem zlE:Holds prog G0 233 (yK 3 wg qb Ty.name 234):=by
 refine Holds.of_exC D233 func233 rfl zK (by kernel_rfl) (tab [(234,nmC wg qb Ty.name)]) (zk ⟨zhU,trivial⟩) zw fun k0 rl args hpu hpre=>?_
 unfold yK at hpre ⊢
 obtain⟨l,rfl,hl⟩:=hpre
 simp only[zE,zcd]
 simp only[f233]
 rw[zb (Nat.le_of_ble_eq_true rfl)]
 simp(maxSteps:=4000000) only[go_sem,↓zj,zf,wg]
 refine zB.ents (wu.nilArr (d:=5) (l:=(4,1000)) 1 (fun _=>[]) rfl rfl rfl) ?_
 simp(maxSteps:=4000000) only[go_sem,↓zj]
 refine zB.loopF (β:=Nat) [(5,5),(7,7),(10,20)] (fun i=>[(5,.msl (4,1000) 0 i),(10,.int .i64 i)]) (fun i=>updH (fun _=>none) (4,1000) (.arr i 1 (fun i=>[.str (el l i).name]))) (fun i=>i≤l.length) (fun i=>l.length - i) 0 (Nat.zero_le _) ?_ (zy.arr1 (zd _ _ _) rfl rfl fun i hi=>by omega) ?_
 ·simp(maxSteps:=4000000) only[go_sem,↓zj]
  try simp
 ·intro ck i hck hi
  generalize hq0:exC _ _ _ _ _=gg
  by_cases hlt:i < l.length
  ·have hd:decide ((i:Int) < (l.length:Int))=true:=by simp;omega
   rw[← hq0]
   clear hq0
   simp(maxSteps:=4000000) only[go_sem,↓zj,hd,zf,wg]
   exact⟨⟨by omega,by omega⟩,⟨el l i,rfl⟩,⟨by omega,by omega,wG rfl yx⟩,zn (by omega) (by omega),i+1,hlt,by omega,⟨rfl,rfl⟩,zy.arr1 (zd _ _ _) rfl rfl fun j hj=>snoc (f:=fun i=>[.str (el l i).name]) rfl rfl hj⟩
  ·have hd:decide ((i:Int) < (l.length:Int))=false:=by simp;omega
   obtain rfl:i=l.length:=by omega
   rw[← hq0]
   clear hq0
   simp(maxSteps:=4000000) only[go_sem,↓zj,hd,Nat.zero_add]
   exact jD rfl fun i hi=>rfl
theorem zlI:Holds prog G0 235 (yK 2 zZ jj Ho.name 236):=by
 refine Holds.of_exC D235 func235 rfl zK (by kernel_rfl) (tab [(236,nmC zZ jj Ho.name)]) (zk ⟨zhX,trivial⟩) zw fun k0 rl args hpu hpre=>?_
 unfold yK at hpre ⊢
 obtain⟨l,rfl,hl⟩:=hpre
 simp only[zE,zce]
 simp only[f235]
 rw[zb (Nat.le_of_ble_eq_true rfl)]
 simp(maxSteps:=4000000) only[go_sem,↓zj,zf,zZ]
 refine zB.ents (wu.nilArr (d:=5) (l:=(4,1000)) 1 (fun _=>[]) rfl rfl rfl) ?_
 simp(maxSteps:=4000000) only[go_sem,↓zj]
 refine zB.loopF (β:=Nat) [(5,5),(7,7),(10,20)] (fun i=>[(5,.msl (4,1000) 0 i),(10,.int .i64 i)]) (fun i=>updH (fun _=>none) (4,1000) (.arr i 1 (fun i=>[.str (el l i).name]))) (fun i=>i≤l.length) (fun i=>l.length - i) 0 (Nat.zero_le _) ?_ (zy.arr1 (zd _ _ _) rfl rfl fun i hi=>by omega) ?_
 ·simp(maxSteps:=4000000) only[go_sem,↓zj]
  try simp
 ·intro ck i hck hi
  generalize hq0:exC _ _ _ _ _=gg
  by_cases hlt:i < l.length
  ·have hd:decide ((i:Int) < (l.length:Int))=true:=by simp;omega
   rw[← hq0]
   clear hq0
   simp(maxSteps:=4000000) only[go_sem,↓zj,hd,zf,zZ]
   exact⟨⟨by omega,by omega⟩,⟨el l i,rfl⟩,⟨by omega,by omega,wG rfl yx⟩,zn (by omega) (by omega),i+1,hlt,by omega,⟨rfl,rfl⟩,zy.arr1 (zd _ _ _) rfl rfl fun j hj=>snoc (f:=fun i=>[.str (el l i).name]) rfl rfl hj⟩
  ·have hd:decide ((i:Int) < (l.length:Int))=false:=by simp;omega
   obtain rfl:i=l.length:=by omega
   rw[← hq0]
   clear hq0
   simp(maxSteps:=4000000) only[go_sem,↓zj,hd,Nat.zero_add]
   exact jD rfl fun i hi=>rfl
theorem zlJ:Holds prog G0 237 (yK 5 zM qc Fl.name 238):=by
 refine Holds.of_exC D237 func237 rfl zK (by kernel_rfl) (tab [(238,nmC zM qc Fl.name)]) (zk ⟨zhY,trivial⟩) zw fun k0 rl args hpu hpre=>?_
 unfold yK at hpre ⊢
 obtain⟨l,rfl,hl⟩:=hpre
 simp only[zE,zcg]
 simp only[f237]
 rw[zb (Nat.le_of_ble_eq_true rfl)]
 simp(maxSteps:=4000000) only[go_sem,↓zj,zf,zM]
 refine zB.ents (wu.nilArr (d:=5) (l:=(4,1000)) 1 (fun _=>[]) rfl rfl rfl) ?_
 simp(maxSteps:=4000000) only[go_sem,↓zj]
 refine zB.loopF (β:=Nat) [(5,5),(7,7),(10,20)] (fun i=>[(5,.msl (4,1000) 0 i),(10,.int .i64 i)]) (fun i=>updH (fun _=>none) (4,1000) (.arr i 1 (fun i=>[.str (el l i).name]))) (fun i=>i≤l.length) (fun i=>l.length - i) 0 (Nat.zero_le _) ?_ (zy.arr1 (zd _ _ _) rfl rfl fun i hi=>by omega) ?_
 ·simp(maxSteps:=4000000) only[go_sem,↓zj]
  try simp
 ·intro ck i hck hi
  generalize hq0:exC _ _ _ _ _=gg
  by_cases hlt:i < l.length
  ·have hd:decide ((i:Int) < (l.length:Int))=true:=by simp;omega
   rw[← hq0]
   clear hq0
   simp(maxSteps:=4000000) only[go_sem,↓zj,hd,zf,zM]
   exact⟨⟨by omega,by omega⟩,⟨el l i,rfl⟩,⟨by omega,by omega,wG rfl yx⟩,zn (by omega) (by omega),i+1,hlt,by omega,⟨rfl,rfl⟩,zy.arr1 (zd _ _ _) rfl rfl fun j hj=>snoc (f:=fun i=>[.str (el l i).name]) rfl rfl hj⟩
  ·have hd:decide ((i:Int) < (l.length:Int))=false:=by simp;omega
   obtain rfl:i=l.length:=by omega
   rw[← hq0]
   clear hq0
   simp(maxSteps:=4000000) only[go_sem,↓zj,hd,Nat.zero_add]
   exact jD rfl fun i hi=>rfl
theorem zlG:Holds prog G0 239 (yK 3 wq za8 Mp.name 240):=by
 refine Holds.of_exC D239 func239 rfl zK (by kernel_rfl) (tab [(240,nmC wq za8 Mp.name)]) (zk ⟨zhW,trivial⟩) zw fun k0 rl args hpu hpre=>?_
 unfold yK at hpre ⊢
 obtain⟨l,rfl,hl⟩:=hpre
 simp only[zE,zee]
 simp only[f239]
 rw[zb (Nat.le_of_ble_eq_true rfl)]
 simp(maxSteps:=4000000) only[go_sem,↓zj,zf,wq]
 refine zB.ents (wu.nilArr (d:=5) (l:=(4,1000)) 1 (fun _=>[]) rfl rfl rfl) ?_
 simp(maxSteps:=4000000) only[go_sem,↓zj]
 refine zB.loopF (β:=Nat) [(5,5),(7,7),(10,20)] (fun i=>[(5,.msl (4,1000) 0 i),(10,.int .i64 i)]) (fun i=>updH (fun _=>none) (4,1000) (.arr i 1 (fun i=>[.str (el l i).name]))) (fun i=>i≤l.length) (fun i=>l.length - i) 0 (Nat.zero_le _) ?_ (zy.arr1 (zd _ _ _) rfl rfl fun i hi=>by omega) ?_
 ·simp(maxSteps:=4000000) only[go_sem,↓zj]
  try simp
 ·intro ck i hck hi
  generalize hq0:exC _ _ _ _ _=gg
  by_cases hlt:i < l.length
  ·have hd:decide ((i:Int) < (l.length:Int))=true:=by simp;omega
   rw[← hq0]
   clear hq0
   simp(maxSteps:=4000000) only[go_sem,↓zj,hd,zf,wq]
   exact⟨⟨by omega,by omega⟩,⟨el l i,rfl⟩,⟨by omega,by omega,wG rfl yx⟩,zn (by omega) (by omega),i+1,hlt,by omega,⟨rfl,rfl⟩,zy.arr1 (zd _ _ _) rfl rfl fun j hj=>snoc (f:=fun i=>[.str (el l i).name]) rfl rfl hj⟩
  ·have hd:decide ((i:Int) < (l.length:Int))=false:=by simp;omega
   obtain rfl:i=l.length:=by omega
   rw[← hq0]
   clear hq0
   simp(maxSteps:=4000000) only[go_sem,↓zj,hd,Nat.zero_add]
   exact jD rfl fun i hi=>rfl
theorem zlF:Holds prog G0 241 (yK 4 zX qy Of.name 242):=by
 refine Holds.of_exC D241 func241 rfl zK (by kernel_rfl) (tab [(242,nmC zX qy Of.name)]) (zk ⟨zhV,trivial⟩) zw fun k0 rl args hpu hpre=>?_
 unfold yK at hpre ⊢
 obtain⟨l,rfl,hl⟩:=hpre
 simp only[zE,zaz]
 simp only[f241]
 rw[zb (Nat.le_of_ble_eq_true rfl)]
 simp(maxSteps:=4000000) only[go_sem,↓zj,zf,zX]
 refine zB.ents (wu.nilArr (d:=5) (l:=(4,1000)) 1 (fun _=>[]) rfl rfl rfl) ?_
 simp(maxSteps:=4000000) only[go_sem,↓zj]
 refine zB.loopF (β:=Nat) [(5,5),(7,7),(10,20)] (fun i=>[(5,.msl (4,1000) 0 i),(10,.int .i64 i)]) (fun i=>updH (fun _=>none) (4,1000) (.arr i 1 (fun i=>[.str (el l i).name]))) (fun i=>i≤l.length) (fun i=>l.length - i) 0 (Nat.zero_le _) ?_ (zy.arr1 (zd _ _ _) rfl rfl fun i hi=>by omega) ?_
 ·simp(maxSteps:=4000000) only[go_sem,↓zj]
  try simp
 ·intro ck i hck hi
  generalize hq0:exC _ _ _ _ _=gg
  by_cases hlt:i < l.length
  ·have hd:decide ((i:Int) < (l.length:Int))=true:=by simp;omega
   rw[← hq0]
   clear hq0
   simp(maxSteps:=4000000) only[go_sem,↓zj,hd,zf,zX]
   exact⟨⟨by omega,by omega⟩,⟨el l i,rfl⟩,⟨by omega,by omega,wG rfl yx⟩,zn (by omega) (by omega),i+1,hlt,by omega,⟨rfl,rfl⟩,zy.arr1 (zd _ _ _) rfl rfl fun j hj=>snoc (f:=fun i=>[.str (el l i).name]) rfl rfl hj⟩
  ·have hd:decide ((i:Int) < (l.length:Int))=false:=by simp;omega
   obtain rfl:i=l.length:=by omega
   rw[← hq0]
   clear hq0
   simp(maxSteps:=4000000) only[go_sem,↓zj,hd,Nat.zero_add]
   exact jD rfl fun i hi=>rfl
theorem zlK:Holds prog G0 199 (yK 6 zP jl Co.name 243):=by
 refine Holds.of_exC D199 func199 rfl zK (by kernel_rfl) (tab [(243,nmC zP jl Co.name)]) (zk ⟨zhZ,trivial⟩) zw fun k0 rl args hpu hpre=>?_
 unfold yK at hpre ⊢
 obtain⟨l,rfl,hl⟩:=hpre
 simp only[zE,zaB]
 simp only[f199]
 rw[zb (Nat.le_of_ble_eq_true rfl)]
 simp(maxSteps:=4000000) only[go_sem,↓zj,zf,zP]
 refine zB.ents (wu.nilArr (d:=5) (l:=(4,1000)) 1 (fun _=>[]) rfl rfl rfl) ?_
 simp(maxSteps:=4000000) only[go_sem,↓zj]
 refine zB.loopF (β:=Nat) [(5,5),(7,7),(10,20)] (fun i=>[(5,.msl (4,1000) 0 i),(10,.int .i64 i)]) (fun i=>updH (fun _=>none) (4,1000) (.arr i 1 (fun i=>[.str (el l i).name]))) (fun i=>i≤l.length) (fun i=>l.length - i) 0 (Nat.zero_le _) ?_ (zy.arr1 (zd _ _ _) rfl rfl fun i hi=>by omega) ?_
 ·simp(maxSteps:=4000000) only[go_sem,↓zj]
  try simp
 ·intro ck i hck hi
  generalize hq0:exC _ _ _ _ _=gg
  by_cases hlt:i < l.length
  ·have hd:decide ((i:Int) < (l.length:Int))=true:=by simp;omega
   rw[← hq0]
   clear hq0
   simp(maxSteps:=4000000) only[go_sem,↓zj,hd,zf,zP]
   exact⟨⟨by omega,by omega⟩,⟨el l i,rfl⟩,⟨by omega,by omega,wG rfl yx⟩,zn (by omega) (by omega),i+1,hlt,by omega,⟨rfl,rfl⟩,zy.arr1 (zd _ _ _) rfl rfl fun j hj=>snoc (f:=fun i=>[.str (el l i).name]) rfl rfl hj⟩
  ·have hd:decide ((i:Int) < (l.length:Int))=false:=by simp;omega
   obtain rfl:i=l.length:=by omega
   rw[← hq0]
   clear hq0
   simp(maxSteps:=4000000) only[go_sem,↓zj,hd,Nat.zero_add]
   exact jD rfl fun i hi=>rfl
theorem zeI:Holds prog G0 189 zmp:=by
 refine Holds.of_exC D189 func189 rfl zK (by kernel_rfl) (tab []) (zk trivial) zw fun k0 rl args hpu hpre=>?_
 unfold zmp at hpre ⊢
 obtain⟨n,get,s,rfl,hn,hget⟩:=hpre
 simp only[zE,zV,zF]
 obtain⟨l,hl⟩:∃ l,wL (.sl n 1 get)=l:=⟨_,rfl⟩
 have hll:l.length=n:=by rw[← hl,dec_sl];simp
 have hg:∀ i,i < n→get i=[.str (el l i)]:=fun i hi=>by
  rw[hget i hi,← hl,dec_sl]
  simp[el,hi]
 rw[hl]
 simp only[f189]
 rw[zb (Nat.le_of_ble_eq_true rfl)]
 simp(maxSteps:=4000000) only[go_sem,↓zj]
 refine zB.loopF (β:=Nat) [(4,5),(8,18)] (fun i=>[(8,.int .i64 i)]) (fun _=>fun _=>none) (fun i=>i≤n∧∀ j,j < i→el l j≠s) (fun i=>n - i) 0 ⟨Nat.zero_le _,fun j hj=>by omega⟩ ?_ zy.none ?_
 ·simp(maxSteps:=4000000) only[go_sem,↓zj]
  try simp
 ·intro ck i hck hI
  obtain⟨hi,hb⟩:=hI
  generalize hq0:exC _ _ _ _ _=gg
  by_cases hlt:i < n
  ·have hd:decide ((i:Int) < (n:Int))=true:=by simp;omega
   have hgi:=hg i hlt
   rw[← hq0]
   clear hq0
   simp(maxSteps:=4000000) only[go_sem,↓zj,hd,hgi]
   refine⟨⟨by omega,by omega⟩,fun h=>zo.of_eq (by rw[zc3 (by omega) h.symm hb]),fun h=>⟨zn (by omega) (by omega),i+1,⟨hlt,fun j hj=>?_⟩,by omega,rfl,zy.none⟩⟩
   by_cases e:j=i
   ·subst e;exact fun q=>h q.symm
   ·exact hb j (by omega)
  ·have hd:decide ((i:Int) < (n:Int))=false:=by simp;omega
   obtain rfl:i=n:=by omega
   rw[← hq0]
   clear hq0
   simp(maxSteps:=4000000) only[go_sem,↓zj,hd]
   exact zo.of_eq (by rw[jS (by rw[hll];exact hb)])
theorem vX:Holds prog G0 182 vT:=by
 refine Holds.of_exC D182 func182 rfl zK (by kernel_rfl) (tab [(189,zmp)]) (zk ⟨zeI,trivial⟩) zw fun k0 rl args hpu hpre=>?_
 unfold vT at hpre ⊢
 obtain⟨n,get,s,rfl,hn,hget⟩:=hpre
 simp only[zE,zV,zF]
 have hpu:Pu (.sl n 1 get):=vW.2 fun i hi v hv=>by rw[hget i hi] at hv;rw[List.mem_singleton.1 hv];exact .str _
 simp only[f182]
 rw[zb (Nat.le_of_ble_eq_true rfl)]
 simp(maxSteps:=4000000) only[go_sem,↓zj,hpu]
 exact⟨⟨n,get,s,rfl,hn,hget⟩,zo.of_eq (congrArg V.bool (zd4.trans (decide_eq_decide.2 Iff.rfl)))⟩
theorem qo:Holds prog G0 186 zaS:=by
 refine Holds.of_exC D186 func186 rfl zK (by kernel_rfl) (tab [(199,yK 6 zP jl Co.name 243),(233,yK 3 wg qb Ty.name 234),(234,nmC wg qb Ty.name),(235,yK 2 zZ jj Ho.name 236),(236,nmC zZ jj Ho.name),(237,yK 5 zM qc Fl.name 238),(238,nmC zM qc Fl.name),(239,yK 3 wq za8 Mp.name 240),(240,nmC wq za8 Mp.name),(241,yK 4 zX qy Of.name 242),(242,nmC zX qy Of.name),(243,nmC zP jl Co.name)]) (zk ⟨zlK,zlE,zhU,zlI,zhX,zlJ,zhY,zlG,zhW,zlF,zhV,zhZ,trivial⟩) zw fun k0 rl args hpu hpre=>?_
 unfold zaS at hpre ⊢
 obtain⟨r,c,rfl,hr⟩:=hpre
 simp only[zE,zV,zr,zN,wv]
 obtain⟨h1,h2,h3,h4,h5,h6⟩:=hr
 by_cases e1:c=116
 ·have d1:decide (c=116)=true:=decide_eq_true e1
  simp only[f186]
  rw[zb (Nat.le_of_ble_eq_true rfl)]
  simp(maxSteps:=4000000) only[go_sem,↓zj,d1]
  exact⟨⟨_,rfl,h1⟩,zo.of_eq (by rw[Reg.namesOf,if_pos e1])⟩
 have d1:decide (c=116)=false:=decide_eq_false e1
 by_cases e2:c=104
 ·have d2:decide (c=104)=true:=decide_eq_true e2
  simp only[f186]
  rw[zb (Nat.le_of_ble_eq_true rfl)]
  simp(maxSteps:=4000000) only[go_sem,↓zj,d1,d2]
  exact⟨⟨_,rfl,h2⟩,zo.of_eq (by rw[Reg.namesOf,if_neg e1,if_pos e2])⟩
 have d2:decide (c=104)=false:=decide_eq_false e2
 by_cases e3:c=102
 ·have d3:decide (c=102)=true:=decide_eq_true e3
  simp only[f186]
  rw[zb (Nat.le_of_ble_eq_true rfl)]
  simp(maxSteps:=4000000) only[go_sem,↓zj,d1,d2,d3]
  exact⟨⟨_,rfl,h3⟩,zo.of_eq (by rw[Reg.namesOf,if_neg e1,if_neg e2,if_pos e3])⟩
 have d3:decide (c=102)=false:=decide_eq_false e3
 by_cases e4:c=109
 ·have d4:decide (c=109)=true:=decide_eq_true e4
  simp only[f186]
  rw[zb (Nat.le_of_ble_eq_true rfl)]
  simp(maxSteps:=4000000) only[go_sem,↓zj,d1,d2,d3,d4]
  exact⟨⟨_,rfl,h4⟩,zo.of_eq (by rw[Reg.namesOf,if_neg e1,if_neg e2,if_neg e3,if_pos e4])⟩
 have d4:decide (c=109)=false:=decide_eq_false e4
 by_cases e5:c=111
 ·have d5:decide (c=111)=true:=decide_eq_true e5
  simp only[f186]
  rw[zb (Nat.le_of_ble_eq_true rfl)]
  simp(maxSteps:=4000000) only[go_sem,↓zj,d1,d2,d3,d4,d5]
  exact⟨⟨_,rfl,h5⟩,zo.of_eq (by rw[Reg.namesOf,if_neg e1,if_neg e2,if_neg e3,if_neg e4,if_pos e5])⟩
 have d5:decide (c=111)=false:=decide_eq_false e5
 simp only[f186]
 rw[zb (Nat.le_of_ble_eq_true rfl)]
 simp(maxSteps:=4000000) only[go_sem,↓zj,d1,d2,d3,d4,d5]
 exact⟨⟨_,rfl,h6⟩,zo.of_eq (by rw[Reg.namesOf,if_neg e1,if_neg e2,if_neg e3,if_neg e4,if_neg e5])⟩
theorem wQ:Holds prog G0 105 yY:=by
 refine Holds.of_exC D105 func105 rfl zK (by kernel_rfl) (tab [(186,zaS),(189,zmp)]) (zk ⟨qo,zeI,trivial⟩) zw fun k0 rl args hpu hpre=>?_
 unfold yY at hpre ⊢
 obtain⟨r,c,s,rfl,hr⟩:=hpre
 simp only[zE,zV,zb3,zr,zN,wv,zF]
 simp only[f105]
 rw[zb (Nat.le_of_ble_eq_true rfl)]
 simp(maxSteps:=4000000) only[go_sem,↓zj]
 exact⟨⟨r,c,rfl,hr⟩,⟨_,_,_,rfl,zbv (hr.names c)⟩,zo.of_eq rfl⟩
theorem zi2:Holds prog G0 157 (vu 116 wg Reg.typ):=by
 refine Holds.of_exC D157 func157 rfl zK (by kernel_rfl) (tab [(105,yY)]) (zk ⟨wQ,trivial⟩) zw fun k0 rl args hpu hpre=>?_
 unfold vu at hpre ⊢
 obtain⟨r,s,rfl,hr,hs⟩:=hpre
 simp only[zE,zV,zr,zN,zF]
 have hix:=yz hs
 have hlt:zO (r.namesOf 116) s < r.types.length:=by have:=yG hs;rwa [show (r.namesOf 116).length=r.types.length from List.length_map _] at this
 simp only[f157]
 rw[zb (Nat.le_of_ble_eq_true rfl)]
 simp(maxSteps:=4000000) only[go_sem,↓zj,hix,zf,Int.toNat_natCast]
 exact⟨⟨r,_,s,rfl,hr⟩,⟨by omega,by omega⟩,zo.of_eq rfl⟩
theorem kS:Holds prog G0 101 (vu 104 zZ Reg.house):=by
 refine Holds.of_exC D101 func101 rfl zK (by kernel_rfl) (tab [(105,yY)]) (zk ⟨wQ,trivial⟩) zw fun k0 rl args hpu hpre=>?_
 unfold vu at hpre ⊢
 obtain⟨r,s,rfl,hr,hs⟩:=hpre
 simp only[zE,zV,zr,zN,zF]
 have hix:=yz hs
 have hlt:zO (r.namesOf 104) s < r.houses.length:=by have:=yG hs;rwa [show (r.namesOf 104).length=r.houses.length from List.length_map _] at this
 simp only[f101]
 rw[zb (Nat.le_of_ble_eq_true rfl)]
 simp(maxSteps:=4000000) only[go_sem,↓zj,hix,zf,Int.toNat_natCast]
 exact⟨⟨r,_,s,rfl,hr⟩,⟨by omega,by omega⟩,zo.of_eq rfl⟩
theorem zcW:Holds prog G0 151 (vu 102 zM Reg.flight):=by
 refine Holds.of_exC D151 func151 rfl zK (by kernel_rfl) (tab [(105,yY)]) (zk ⟨wQ,trivial⟩) zw fun k0 rl args hpu hpre=>?_
 unfold vu at hpre ⊢
 obtain⟨r,s,rfl,hr,hs⟩:=hpre
 simp only[zE,zV,zr,zN,zF]
 have hix:=yz hs
 have hlt:zO (r.namesOf 102) s < r.flights.length:=by have:=yG hs;rwa [show (r.namesOf 102).length=r.flights.length from List.length_map _] at this
 simp only[f151]
 rw[zb (Nat.le_of_ble_eq_true rfl)]
 simp(maxSteps:=4000000) only[go_sem,↓zj,hix,zf,Int.toNat_natCast]
 exact⟨⟨r,_,s,rfl,hr⟩,⟨by omega,by omega⟩,zo.of_eq rfl⟩
theorem zff:Holds prog G0 110 (vu 109 wq Reg.chart):=by
 refine Holds.of_exC D110 func110 rfl zK (by kernel_rfl) (tab [(105,yY)]) (zk ⟨wQ,trivial⟩) zw fun k0 rl args hpu hpre=>?_
 unfold vu at hpre ⊢
 obtain⟨r,s,rfl,hr,hs⟩:=hpre
 simp only[zE,zV,zr,zN,zF]
 have hix:=yz hs
 have hlt:zO (r.namesOf 109) s < r.maps.length:=by have:=yG hs;rwa [show (r.namesOf 109).length=r.maps.length from List.length_map _] at this
 simp only[f110]
 rw[zb (Nat.le_of_ble_eq_true rfl)]
 simp(maxSteps:=4000000) only[go_sem,↓zj,hix,zf,Int.toNat_natCast]
 exact⟨⟨r,_,s,rfl,hr⟩,⟨by omega,by omega⟩,zo.of_eq rfl⟩
theorem zlD:Holds prog G0 169 (vu 111 zX Reg.offer):=by
 refine Holds.of_exC D169 func169 rfl zK (by kernel_rfl) (tab [(105,yY)]) (zk ⟨wQ,trivial⟩) zw fun k0 rl args hpu hpre=>?_
 unfold vu at hpre ⊢
 obtain⟨r,s,rfl,hr,hs⟩:=hpre
 simp only[zE,zV,zr,zN,zF]
 have hix:=yz hs
 have hlt:zO (r.namesOf 111) s < r.offers.length:=by have:=yG hs;rwa [show (r.namesOf 111).length=r.offers.length from List.length_map _] at this
 simp only[f169]
 rw[zb (Nat.le_of_ble_eq_true rfl)]
 simp(maxSteps:=4000000) only[go_sem,↓zj,hix,zf,Int.toNat_natCast]
 exact⟨⟨r,_,s,rfl,hr⟩,⟨by omega,by omega⟩,zo.of_eq rfl⟩
theorem zfe:Holds prog G0 174 (vu 99 zP Reg.complaint):=by
 refine Holds.of_exC D174 func174 rfl zK (by kernel_rfl) (tab [(105,yY)]) (zk ⟨wQ,trivial⟩) zw fun k0 rl args hpu hpre=>?_
 unfold vu at hpre ⊢
 obtain⟨r,s,rfl,hr,hs⟩:=hpre
 simp only[zE,zV,zr,zN,zF]
 have hix:=yz hs
 have hlt:zO (r.namesOf 99) s < r.complaints.length:=by have:=yG hs;rwa [show (r.namesOf 99).length=r.complaints.length from List.length_map _] at this
 simp only[f174]
 rw[zb (Nat.le_of_ble_eq_true rfl)]
 simp(maxSteps:=4000000) only[go_sem,↓zj,hix,zf,Int.toNat_natCast]
 exact⟨⟨r,_,s,rfl,hr⟩,⟨by omega,by omega⟩,zo.of_eq rfl⟩
end Go.Fly.Tryz
end
