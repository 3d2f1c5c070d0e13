/- The law's own small functions. -/
import Derived.Test.YtkfbgillhhhdgaaGreatDoorSYORB
import Derived.Test.YtkfbgillhhhdgaaGreatDoorAY
set_option linter.unusedSimpArgs false
set_option linter.unusedVariables false
set_option maxRecDepth 100000
set_option maxHeartbeats 1000000
namespace Go.Fly.Tryz
open Go Off Go.Proofs.Tryz
theorem zeW:Holds prog G0 113 zku:=by
 refine Holds.of_exC D113 func113 rfl zK (by kernel_rfl) (tab [(zm 20,zG)]) (zk ⟨za,trivial⟩) zw fun k0 rl args hpu hpre=>?_
 unfold zku at hpre ⊢
 obtain⟨n,rfl,hn⟩:=hpre
 simp only[zE,wv]
 by_cases h0:n=0
 ·subst h0
  have hz:Lib.itoa 0=[48]:=by unfold Lib.itoa;rw[if_neg (by decide)];exact Lib.decDigits_one (by decide)
  rw[hz]
  simp only[f113]
  rw[zb (Nat.le_of_ble_eq_true rfl)]
  simp(maxSteps:=4000000) only[go_sem,↓zj]
  exact zo.of_eq rfl
 ·have d0:decide (n=0)=false:=decide_eq_false h0
  have hi2:=zfQ h0
  have hl:=digA_len hn
  simp only[f113]
  rw[zb (Nat.le_of_ble_eq_true rfl)]
  simp(maxSteps:=4000000) only[go_sem,↓zj,d0]
  refine zB.loopF (β:=Int×Str) [(3,4),(8,23)] (fun b=>[(3,.str b.2),(4,.int .i64 b.1)]) (fun _=>fun _=>none) (fun b=>zkj b.1.natAbs++b.2=zkj n.natAbs∧In64 b.1) (fun b=>b.1.natAbs) (n,[]) ⟨List.append_nil _,hn⟩ ?_ zy.none ?_
  ·simp(maxSteps:=4000000) only[go_sem,↓zj]
   try exact⟨rfl,rfl⟩
  ·intro ck b hck hb
   obtain⟨v,t⟩:=b
   obtain⟨h1,h2,h3⟩:=hb
   have h1:zkj v.natAbs++t=zkj n.natAbs:=h1
   have h2:-9223372036854775808≤v:=h2
   have h3:v≤9223372036854775807:=h3
   have htl:t.length≤21:=by
    have:=congrArg List.length h1
    rw[List.length_append] at this
    omega
   generalize hq0:exC _ _ _ _ _=gg
   by_cases hv:v=0
   ·subst hv
    have h1:t=zkj n.natAbs:=h1
    subst h1
    rw[← hq0]
    clear hq0
    by_cases hneg:n < 0
    ·have dn:decide (n < 0)=true:=decide_eq_true hneg
     simp(maxSteps:=4000000) only[go_sem,↓zj,if_false,dn]
     rw[hi2,if_pos hneg]
     exact⟨by omega,zo.of_eq rfl⟩
    ·have dn:decide (n < 0)=false:=decide_eq_false hneg
     simp(maxSteps:=4000000) only[go_sem,↓zj,if_false,dn]
     rw[hi2,if_neg hneg]
     exact zo.of_eq rfl
   ·have dv:decide (v=0)=false:=decide_eq_false hv
    have t1:=@tmodA v
    have t2:=wrapA v.natAbs
    have h5:=@tdivA v
    have h4:Int.tmod v 10≤9∧-9≤Int.tmod v 10:=by
     have:=t1
     omega
    have hvn:v.natAbs≠0:=by omega
    have hb1:ziS 1 (wa [V.int .u8 ((48+v.natAbs % 10:Nat):Int)] 1)=[UInt8.ofNat (48+v.natAbs % 10)]:=rfl
    rw[← hq0]
    clear hq0
    simp(maxSteps:=4000000) only[go_sem,↓zj,if_true,dv,t1,t2,w8,hb1]
    refine⟨zn (by omega) (by omega),zn (by omega) (by omega),⟨by omega,fun i hi=>by obtain rfl:i=0:=(by omega);rfl⟩,by omega,zn (by omega) (by omega),by omega,(v.tdiv 10,[UInt8.ofNat (48+v.natAbs % 10)]++t),⟨?_,by constructor <;> omega⟩,?_,⟨rfl,rfl⟩,zy.none⟩
    ·rw[h5,← List.append_assoc,← zn5 hvn]
     exact h1
    ·show (v.tdiv 10).natAbs < v.natAbs
     rw[h5]
     omega
theorem rBody_ok:Holds prog G0 135 zh9:=by
 refine Holds.of_exC D135 func135 rfl zK (by kernel_rfl) (tab [(113,zku),(zm 1,zG)]) (zk ⟨zeW,za,trivial⟩) zw fun k0 rl args hpu hpre=>?_
 unfold zh9 at hpre ⊢
 obtain⟨e,rfl,hr⟩:=hpre
 simp only[zE,zq,wH]
 have h0:=bodyW_0 e
 have hle:=bodyW_le hr
 have hi0:=jR hr.num
 have hkl:=hr.kind
 have hnl:=hr.names
 have hvl:=hr.vals
 simp only[f135]
 rw[zb (Nat.le_of_ble_eq_true rfl)]
 simp(maxSteps:=4000000) only[go_sem,↓zj,encEv,zg,zh]
 refine⟨⟨_,rfl,hr.num⟩,by omega,by rw[List.length_append];simp only[List.length_cons,List.length_nil];omega,?_⟩
 refine zB.loopF (β:=Nat) [(3,4),(13,27)] (fun i=>[(3,.str (kq e i)),(4,.int .i64 i)]) (fun _=>fun _=>none) (fun i=>i≤e.names.length) (fun i=>e.names.length - i) 0 (Nat.zero_le _) ?_ zy.none ?_
 ·simp(maxSteps:=4000000) only[go_sem,↓zj]
  exact congrArg V.str h0.symm
 ·intro ck i hck hi
  have hi:i≤e.names.length:=hi
  have hl1:=hle i
  generalize hq0:exC _ _ _ _ _=gg
  by_cases hlt:i < e.names.length
  ·have hd:decide ((i:Int) < (e.names.length:Int))=true:=decide_eq_true (by omega)
   have hs:=zka e hlt
   have hw:=hr.strs _ (wd hlt)
   rw[← hq0]
   clear hq0
   simp(maxSteps:=4000000) only[go_sem,↓zj,hd]
   refine⟨by omega,⟨by omega,by omega⟩,by rw[List.length_append];simp only[List.length_cons,List.length_nil];omega,zn (by omega) (by omega),by omega,i+1,hlt,by omega,⟨by rw[hs],rfl⟩,zy.none⟩
  ·have hd:decide ((i:Int) < (e.names.length:Int))=false:=decide_eq_false (by omega)
   obtain rfl:i=e.names.length:=by omega
   rw[← hq0]
   clear hq0
   simp(maxSteps:=4000000) only[go_sem,↓zj,hd]
   refine zB.loopF (β:=Nat) [(3,3),(5,5),(28,43)] (fun i=>[(3,.str (kq e (e.names.length+i))),(5,.int .i64 i)]) (fun _=>fun _=>none) (fun i=>i≤e.vals.length) (fun i=>e.vals.length - i) 0 (Nat.zero_le _) ?_ zy.none ?_
   ·simp(maxSteps:=4000000) only[go_sem,↓zj]
    exact rfl
   ·intro ck2 i hck2 hi
    have hi:i≤e.vals.length:=hi
    have hl1:=hle (e.names.length+i)
    generalize hq1:exC _ _ _ _ _=gg
    by_cases hlt:i < e.vals.length
    ·have hd2:decide ((i:Int) < (e.vals.length:Int))=true:=decide_eq_true (by omega)
     have hs:=znl e hlt
     have hw:=hr.ints _ (wd hlt)
     have hw2:=jR hw
     rw[← hq1]
     clear hq1
     simp(maxSteps:=4000000) only[go_sem,↓zj,hd2]
     refine⟨by omega,⟨by omega,by omega⟩,⟨_,rfl,hw⟩,by rw[List.length_append];simp only[List.length_cons,List.length_nil];omega,zn (by omega) (by omega),by omega,i+1,hlt,by omega,⟨by rw[← Nat.add_assoc,hs],rfl⟩,zy.none⟩
    ·have hd2:decide ((i:Int) < (e.vals.length:Int))=false:=decide_eq_false (by omega)
     obtain rfl:i=e.vals.length:=by omega
     rw[← hq1]
     clear hq1
     simp(maxSteps:=4000000) only[go_sem,↓zj,hd2]
     rw[znm]
     exact zo.of_eq rfl
theorem rSum_ok:Holds prog G0 136 ko:=by
 refine Holds.of_exC D136 func136 rfl zK (by kernel_rfl) (tab [(113,zku)]) (zk ⟨zeW,trivial⟩) zw fun k0 rl args hpu hpre=>?_
 unfold ko at hpre ⊢
 obtain⟨s,rfl,hs⟩:=hpre
 simp only[zE,zF]
 have hin:=itoa_chk s
 have hpad:=zlq s
 have hbd:=zcj s
 simp only[f136]
 rw[zb (Nat.le_of_ble_eq_true rfl)]
 simp(maxSteps:=4000000) only[go_sem,↓zj]
 refine zB.loopF (β:=Nat) [(3,4),(6,19)] (fun i=>[(3,.int .i64 (zb1 s i)),(4,.int .i64 i)]) (fun _=>fun _=>none) (fun i=>i≤s.length) (fun i=>s.length - i) 0 (Nat.zero_le _) ?_ zy.none ?_
 ·simp(maxSteps:=4000000) only[go_sem,↓zj]
  exact rfl
 ·intro ck i hck hi
  have hi:i≤s.length:=hi
  have hb1:=hbd i
  generalize hq0:exC _ _ _ _ _=gg
  by_cases hlt:i < s.length
  ·have hd:decide ((i:Int) < (s.length:Int))=true:=decide_eq_true (by omega)
   have hu:=u8_le (s.getD i 0)
   rw[← hq0]
   clear hq0
   simp(maxSteps:=4000000) only[go_sem,↓zj,hd,w864,if_true]
   rw[List.getD_eq_getElem?_getD] at hu
   refine⟨zn (by omega) (by omega),⟨by omega,by omega⟩,zn (by omega) (by omega),zn (by omega) (by omega),zn (by omega) (by omega),by omega,i+1,hlt,by omega,⟨?_,rfl⟩,zy.none⟩
   show _=V.int .i64 ((397 * zb1 s i+(((s.getD i 0).toNat:Nat):Int)).tmod 9999943)
   rw[List.getD_eq_getElem?_getD]
  ·have hd:decide ((i:Int) < (s.length:Int))=false:=decide_eq_false (by omega)
   obtain rfl:i=s.length:=by omega
   rw[← hq0]
   clear hq0
   simp(maxSteps:=4000000) only[go_sem,↓zj,hd]
   refine⟨⟨_,rfl,by constructor <;> omega⟩,?_⟩
   refine zB.loopF (β:=Nat) [(5,5),(22,26)] (fun i=>[(5,.str (padE i (Lib.itoa (zb1 s s.length))))]) (fun _=>fun _=>none) (fun i=>i≤7 - (Lib.itoa (zb1 s s.length)).length) (fun i=>7 - i) 0 (Nat.zero_le _) ?_ zy.none ?_
   ·simp(maxSteps:=4000000) only[go_sem,↓zj]
    try exact rfl
   ·intro ck2 i hck2 hi
    have hi:i≤7 - (Lib.itoa (zb1 s s.length)).length:=hi
    have hpl:(padE i (Lib.itoa (zb1 s s.length))).length=i+(Lib.itoa (zb1 s s.length)).length:=by unfold padE;rw[List.length_append,List.length_replicate]
    generalize hq1:exC _ _ _ _ _=gg
    by_cases hlt:i < 7 - (Lib.itoa (zb1 s s.length)).length
    ·have hd2:decide (((padE i (Lib.itoa (zb1 s s.length))).length:Int) < 7)=true:=decide_eq_true (by omega)
     rw[← hq1]
     clear hq1
     simp(maxSteps:=4000000) only[go_sem,↓zj,hd2]
     exact⟨by omega,by omega,i+1,hlt,by omega,rfl,zy.none⟩
    ·have hd2:decide (((padE i (Lib.itoa (zb1 s s.length))).length:Int) < 7)=false:=decide_eq_false (by omega)
     obtain rfl:i=7 - (Lib.itoa (zb1 s s.length)).length:=by omega
     rw[← hq1]
     clear hq1
     simp(maxSteps:=4000000) only[go_sem,↓zj,hd2]
     rw[hpad]
     exact zo.of_eq rfl
theorem zjl:Holds prog G0 71 jG:=by
 refine Holds.of_exC D71 func71 rfl zK (by kernel_rfl) (tab [(135,zh9),(136,ko),(zm 1,zG)]) (zk ⟨rBody_ok,rSum_ok,za,trivial⟩) zw fun k0 rl args hpu hpre=>?_
 unfold jG at hpre ⊢
 obtain⟨e,rfl,hr⟩:=hpre
 simp only[zE,zq,wH]
 have hbl:=zac hr
 have hck:=zda (zb2 e)
 simp only[f71]
 rw[zb (Nat.le_of_ble_eq_true rfl)]
 simp(maxSteps:=4000000) only[go_sem,↓zj,encEv]
 exact⟨⟨e,rfl,hr⟩,by omega,⟨e,rfl,hr⟩,⟨_,rfl,by omega⟩,by rw[List.length_append,hck];simp only[List.length_cons,List.length_nil];omega,by rw[List.length_append,List.length_append,hck];simp only[List.length_cons,List.length_nil];omega,zo.of_eq rfl⟩
theorem rSeal_ok:Holds prog G0 44 zgj:=by
 refine Holds.of_exC D44 func44 rfl zK (by kernel_rfl) (tab [(zm 2,zG)]) (zk ⟨za,trivial⟩) zw fun k0 rl args hpu hpre=>?_
 unfold zgj at hpre ⊢
 obtain⟨k,n,get,s,rfl,hk,hb,hs⟩:=hpre
 have hdb:=qx hb
 simp only[zE,zV,zq,zaA,hdb]
 obtain⟨rfl,hg⟩:=hb
 have hpu:Pu (.sl s.length 1 get)↔True:=iff_true_intro (vW.2 fun i hi v hv=>by rw[hg i hi,List.mem_singleton] at hv;subst hv;exact .int _ _)
 simp only[f44]
 rw[zb (Nat.le_of_ble_eq_true rfl)]
 simp(maxSteps:=4000000) only[go_sem,↓zj,hpu]
 have hk8:=hk.len
 refine zB.loopF (β:=Nat) [(6,8),(10,43)] (fun j=>[(6,.int .i64 j)]) (fun j=>updH (updH (fun _=>none) (2,4) (.cells [.int .u8 0,.int .u8 0,.int .u8 0,.int .u8 0,.int .u8 0,.int .u8 0,.int .u8 0,.int .u8 0])) (3,5) (.cells (wj (zbC k s j)))) (fun j=>j≤8) (fun j=>8 - j) 0 (Nat.zero_le _) ?_ ?_ ?_
 ·simp(maxSteps:=400000) only[go_sem,↓zj]
  try exact rfl
 ·exact zy.upd (zy.upd zy.none ⟨_,rfl,ObjLe.refl _⟩) ⟨_,zd _ _ _,ObjLe.refl _⟩
 ·intro c j hck hj
  have hj:j≤8:=hj
  generalize hq0:exC _ _ _ _ _=gg
  by_cases hlt:j < 8
  ·have hd:decide ((j:Int) < 8)=true:=decide_eq_true (by omega)
   have hka:(List.drop (j * 1) (wj k)).head?=some (V.int .u8 (el k j)):=by
    rw[← Nat.zero_add (j * 1)]
    exact zme (K:=k) (j:=j) (by omega)
   have hkb:=hk.el hlt
   rw[← hq0]
   clear hq0
   simp(maxSteps:=400000) only[go_sem,↓zj,hd,w864,if_true,hka]
   refine⟨⟨by omega,by omega⟩,zn (by omega) (by omega),?_⟩
   refine zB.loopF (β:=Nat) [(7,8),(18,39)] (fun i=>[(7,.int .i64 (qQ j (el k j) s i)),(8,.int .i64 i)]) (fun i=>updH (updH (fun _=>none) (2,4) (.cells [.int .u8 0,.int .u8 0,.int .u8 0,.int .u8 0,.int .u8 0,.int .u8 0,.int .u8 0,.int .u8 0])) (3,5) (.cells (wj (zbC k s j)))) (fun i=>i≤s.length) (fun i=>s.length - i) 0 (Nat.zero_le _) ?_ (zy.refl _) ?_
   ·simp(maxSteps:=400000) only[go_sem,↓zj]
    exact rfl
   ·intro c2 i hck2 hi
    have hi:i≤s.length:=hi
    have hsb:=zdt (j:=(j:Int)) (x:=el k j) (by omega) hkb s i
    have hmul:=zhy (j:=(j:Int)) (by omega) hsb
    generalize hq1:exC _ _ _ _ _=gg
    by_cases hlt2:i < s.length
    ·have hd2:decide ((i:Int) < (s.length:Int))=true:=decide_eq_true (by omega)
     have hgi:=hg i hlt2
     have hu:=u8_le (s.getD i 0)
     rw[← hq1]
     clear hq1
     simp(maxSteps:=400000) only[go_sem,↓zj,hd2,w864,if_true,hgi]
     rw[List.getD_eq_getElem?_getD] at hu
     refine⟨zn (by omega) (by omega),zn (by omega) (by omega),zn (by omega) (by omega),⟨by omega,by omega⟩,zn (by omega) (by omega),zn (by omega) (by omega),zn (by omega) (by omega),zn (by omega) (by omega),zn (by omega) (by omega),zn (by omega) (by omega),by omega,i+1,hlt2,by omega,⟨?_,rfl⟩,zy.refl _⟩
     show _=V.int .i64 (((4 * (j:Int)+3) * qQ (j:Int) (el k j) s i+(((s.getD i 0).toNat:Nat):Int)+5 * j+2).tmod 256)
     rw[List.getD_eq_getElem?_getD]
    ·have hd2:decide ((i:Int) < (s.length:Int))=false:=decide_eq_false (by omega)
     obtain rfl:i=s.length:=by omega
     have hset:=zkE k s hlt
     have hle:(0+j * 1+1≤(wj (zbC k s j)).length)=True:=eq_true (by rw[qJ,zkF];omega)
     have hw:=wrap8 hsb
     rw[← hq1]
     clear hq1
     simp(maxSteps:=400000) only[go_sem,↓zj,hd2,w648,if_false,hle,hw,hset]
     refine⟨⟨by omega,by omega⟩,zn (by omega) (by omega),by omega,j+1,hlt,by omega,⟨by rw[Int.natCast_add];rfl,?_⟩,?_⟩
     ·rw[zf7 (fun e he=>by simp[inD] at he ⊢;omega)]
      simp(maxSteps:=400000) only[go_sem,↓zj]
     ·exact zy.upd (zy.upd zy.none ⟨_,by rw[zc (by simp),zc (by simp),zd],ObjLe.refl _⟩) ⟨_,zd _ _ _,ObjLe.refl _⟩
  ·have hd:decide ((j:Int) < 8)=false:=decide_eq_false (by omega)
   obtain rfl:j=8:=by omega
   have hall:=qp (yg k s)
   have hc1:=jX (yg k s)
   have hc2:=ja (yg k s)
   have hc3:=kC (yg k s)
   rw[← hq0]
   clear hq0
   simp(maxSteps:=400000) only[go_sem,↓zj,hd,hall,hc1,hc2,hc3,zkG]
   exact zo.of_eq rfl
theorem zkI:Holds prog G0 80 zhA:=by
 refine Holds.of_exC D80 func80 rfl zK (by kernel_rfl) (tab []) (zk trivial) zw fun k0 rl args hpu hpre=>?_
 unfold zhA at hpre ⊢
 obtain⟨n,a,m,b,rfl,ha,hb⟩:=hpre
 simp only[zE,zV]
 have hpa:=ha.pu
 have hpb:=hb.pu
 have hn1:=ha.1
 have hn2:=hb.1
 by_cases hnn:n=m
 ·subst hnn
  have hdd:decide ((n:Int)=(n:Int))=true:=decide_eq_true rfl
  simp only[f80]
  rw[zb (Nat.le_of_ble_eq_true rfl)]
  simp(maxSteps:=4000000) only[go_sem,↓zj,hpa,hpb,hdd]
  refine zB.loopF (β:=Nat) [(4,5),(11,25)] (fun i=>[(5,.int .i64 i)]) (fun _=>fun _=>none) (fun i=>i≤n∧∀ j,j < i→zQ ((a j).getD 0 .top)=zQ ((b j).getD 0 .top)) (fun i=>n - i) 0 ⟨Nat.zero_le _,fun j hj=>absurd hj (Nat.not_lt_zero _)⟩ ?_ zy.none ?_
  ·simp(maxSteps:=4000000) only[go_sem,↓zj]
   try exact rfl
  ·intro ck i hck hI
   obtain⟨hi,hf⟩:=hI
   have hi:i≤n:=hi
   generalize hq0:exC _ _ _ _ _=gg
   by_cases hlt:i < n
   ·have hd:decide ((i:Int) < (n:Int))=true:=decide_eq_true (by omega)
    have hga:=ha.2 i hlt
    have hgb:=hb.2 i hlt
    generalize hx:zQ ((a i).getD 0 .top)=x at hga
    generalize hy:zQ ((b i).getD 0 .top)=y at hgb
    by_cases he:x=y
    ·have q1:decide (x=y)=true:=decide_eq_true he
     rw[← hq0]
     clear hq0
     simp(maxSteps:=4000000) only[go_sem,↓zj,hd,hga,hgb,q1]
     refine⟨⟨by omega,by omega⟩,⟨by omega,by omega⟩,zn (by omega) (by omega),by omega,i+1,⟨hlt,fun j hj=>?_⟩,by omega,rfl,zy.none⟩
     by_cases hji:j=i
     ·subst hji
      show zQ ((a j).getD 0 .top)=zQ ((b j).getD 0 .top)
      rw[hx,hy,he]
     ·exact hf j (by omega)
    ·have q1:decide (x=y)=false:=decide_eq_false he
     rw[← hq0]
     clear hq0
     simp(maxSteps:=4000000) only[go_sem,↓zj,hd,hga,hgb,q1]
     refine⟨⟨by omega,by omega⟩,⟨by omega,by omega⟩,zo.of_eq (congrArg V.bool (decide_eq_false fun q=>he ?_).symm)⟩
     rw[← hx,← hy]
     exact zgm q hlt
   ·have hd:decide ((i:Int) < (n:Int))=false:=decide_eq_false (by omega)
    obtain rfl:i=n:=by omega
    rw[← hq0]
    clear hq0
    simp(maxSteps:=4000000) only[go_sem,↓zj,hd]
    exact zo.of_eq (congrArg V.bool (decide_eq_true (zgl hf)).symm)
 ·have hdd:decide ((n:Int)=(m:Int))=false:=decide_eq_false (by omega)
  simp only[f80]
  rw[zb (Nat.le_of_ble_eq_true rfl)]
  simp(maxSteps:=4000000) only[go_sem,↓zj,hpa,hpb,hdd]
  exact zo.of_eq (congrArg V.bool (decide_eq_false fun q=>hnn (zdx q)).symm)
theorem sInts_ok:Holds prog G0 62 zhB:=by
 refine Holds.of_exC D62 func62 rfl zK (by kernel_rfl) (tab []) (zk trivial) zw fun k0 rl args hpu hpre=>?_
 unfold zhB at hpre ⊢
 obtain⟨n,a,m,b,rfl,ha,hb⟩:=hpre
 simp only[zE,zV]
 have hpa:=ha.pu
 have hpb:=hb.pu
 have hn1:=ha.1
 have hn2:=hb.1
 by_cases hnn:n=m
 ·subst hnn
  have hdd:decide ((n:Int)=(n:Int))=true:=decide_eq_true rfl
  simp only[f62]
  rw[zb (Nat.le_of_ble_eq_true rfl)]
  simp(maxSteps:=4000000) only[go_sem,↓zj,hpa,hpb,hdd]
  refine zB.loopF (β:=Nat) [(4,5),(11,25)] (fun i=>[(5,.int .i64 i)]) (fun _=>fun _=>none) (fun i=>i≤n∧∀ j,j < i→wo ((a j).getD 0 .top)=wo ((b j).getD 0 .top)) (fun i=>n - i) 0 ⟨Nat.zero_le _,fun j hj=>absurd hj (Nat.not_lt_zero _)⟩ ?_ zy.none ?_
  ·simp(maxSteps:=4000000) only[go_sem,↓zj]
   try exact rfl
  ·intro ck i hck hI
   obtain⟨hi,hf⟩:=hI
   have hi:i≤n:=hi
   generalize hq0:exC _ _ _ _ _=gg
   by_cases hlt:i < n
   ·have hd:decide ((i:Int) < (n:Int))=true:=decide_eq_true (by omega)
    have hga:=ha.2 i hlt
    have hgb:=hb.2 i hlt
    generalize hx:wo ((a i).getD 0 .top)=x at hga
    generalize hy:wo ((b i).getD 0 .top)=y at hgb
    by_cases he:x=y
    ·have q1:decide (x=y)=true:=decide_eq_true he
     rw[← hq0]
     clear hq0
     simp(maxSteps:=4000000) only[go_sem,↓zj,hd,hga,hgb,q1]
     refine⟨⟨by omega,by omega⟩,⟨by omega,by omega⟩,zn (by omega) (by omega),by omega,i+1,⟨hlt,fun j hj=>?_⟩,by omega,rfl,zy.none⟩
     by_cases hji:j=i
     ·subst hji
      show wo ((a j).getD 0 .top)=wo ((b j).getD 0 .top)
      rw[hx,hy,he]
     ·exact hf j (by omega)
    ·have q1:decide (x=y)=false:=decide_eq_false he
     rw[← hq0]
     clear hq0
     simp(maxSteps:=4000000) only[go_sem,↓zj,hd,hga,hgb,q1]
     refine⟨⟨by omega,by omega⟩,⟨by omega,by omega⟩,zo.of_eq (congrArg V.bool (decide_eq_false fun q=>he ?_).symm)⟩
     rw[← hx,← hy]
     exact zgm q hlt
   ·have hd:decide ((i:Int) < (n:Int))=false:=decide_eq_false (by omega)
    obtain rfl:i=n:=by omega
    rw[← hq0]
    clear hq0
    simp(maxSteps:=4000000) only[go_sem,↓zj,hd]
    exact zo.of_eq (congrArg V.bool (decide_eq_true (zgl hf)).symm)
 ·have hdd:decide ((n:Int)=(m:Int))=false:=decide_eq_false (by omega)
  simp only[f62]
  rw[zb (Nat.le_of_ble_eq_true rfl)]
  simp(maxSteps:=4000000) only[go_sem,↓zj,hpa,hpb,hdd]
  exact zo.of_eq (congrArg V.bool (decide_eq_false fun q=>hnn (zdx q)).symm)
theorem zbZ:Holds prog G0 78 zcE:=by
 refine Holds.of_exC D78 func78 rfl zK (by kernel_rfl) (tab []) (zk trivial) zw fun k0 rl args hpu hpre=>?_
 unfold zcE at hpre ⊢
 obtain⟨n,get,rfl,hs⟩:=hpre
 simp only[zE]
 simp only[f78]
 rw[zb (Nat.le_of_ble_eq_true rfl)]
 simp(maxSteps:=4000000) only[go_sem,↓zj]
 exact zhi hs
theorem zc0:Holds prog G0 77 zjE:=by
 refine Holds.of_exC D77 func77 rfl zK (by kernel_rfl) (tab []) (zk trivial) zw fun k0 rl args hpu hpre=>?_
 unfold zjE at hpre ⊢
 obtain⟨n,k,a,v,rfl,ha,hv⟩:=hpre
 simp only[zE,zV,zb3,znr,wv,zF]
 have e1:=zj2 ha
 have e2:=zjN hv
 obtain⟨m,gv,rfl,hgv⟩:=hv
 have hp2:=hgv.pu
 rcases ha with rfl | ⟨ma,ga,rfl,hga⟩
 ·simp only[f77]
  rw[zb (Nat.le_of_ble_eq_true rfl)]
  simp(maxSteps:=4000000) only[go_sem,↓zj,hp2]
  exact zo.agg ⟨zo.refl _,zo.refl _,e1,e2,zo.refl _,trivial⟩
 ·have hp1:=hga.pu
  simp only[f77]
  rw[zb (Nat.le_of_ble_eq_true rfl)]
  simp(maxSteps:=4000000) only[go_sem,↓zj,hp2,hp1]
  exact zo.agg ⟨zo.refl _,zo.refl _,e1,e2,zo.refl _,trivial⟩
theorem zkJ:Holds prog G0 35 qX:=by
 refine Holds.of_exC D35 func35 rfl zK (by kernel_rfl) (tab []) (zk trivial) zw fun k0 rl args hpu hpre=>?_
 unfold qX at hpre ⊢
 obtain⟨n,a,m,b,rfl,ha,hb⟩:=hpre
 simp only[zE,zV]
 have hpa:=ha.pu
 have hpb:=hb.pu
 have hn1:=ha.1
 have hn2:=hb.1
 by_cases hnn:n=m
 ·subst hnn
  have hdd:decide ((n:Int)=(n:Int))=true:=decide_eq_true rfl
  simp only[f35]
  rw[zb (Nat.le_of_ble_eq_true rfl)]
  simp(maxSteps:=4000000) only[go_sem,↓zj,hpa,hpb,hdd]
  refine zB.loopF (β:=Nat) [(4,5),(11,25)] (fun i=>[(5,.int .i64 i)]) (fun _=>fun _=>none) (fun i=>i≤n∧∀ j,j < i→w6 (a j)=w6 (b j)) (fun i=>n - i) 0 ⟨Nat.zero_le _,fun j hj=>absurd hj (Nat.not_lt_zero _)⟩ ?_ zy.none ?_
  ·simp(maxSteps:=4000000) only[go_sem,↓zj]
   try exact rfl
  ·intro ck i hck hI
   obtain⟨hi,hf⟩:=hI
   have hi:i≤n:=hi
   generalize hq0:exC _ _ _ _ _=gg
   by_cases hlt:i < n
   ·have hd:decide ((i:Int) < (n:Int))=true:=decide_eq_true (by omega)
    have hga:=ha.2 i hlt
    have hgb:=hb.2 i hlt
    have hfi:=fun q=>zgm (f:=w6) (sz:=2) (sz':=2) (a:=a) (b:=b) (n:=n) q hlt
    generalize hx:w6 (a i)=x at hga hfi
    generalize hy:w6 (b i)=y at hgb hfi
    obtain⟨x1,x2⟩:=x
    obtain⟨y1,y2⟩:=y
    rw[← hq0]
    clear hq0
    simp(maxSteps:=4000000) only[go_sem,↓zj,hd,hga,hgb,wS]
    refine⟨⟨by omega,by omega⟩,⟨by omega,by omega⟩,fun q=>zo.of_eq (congrArg V.bool (decide_eq_false fun q2=>?_).symm),fun q=>⟨zn (by omega) (by omega),by omega,i+1,⟨hlt,fun j hj=>?_⟩,by omega,rfl,zy.none⟩⟩
    ·have:=hfi q2
     cases this
     simp at q
    ·simp only[Bool.not_eq_false',Bool.and_eq_true,decide_eq_true_eq] at q
     by_cases hji:j=i
     ·subst hji
      rw[hx,hy,q.1,q.2]
     ·exact hf j (by omega)
   ·have hd:decide ((i:Int) < (n:Int))=false:=decide_eq_false (by omega)
    obtain rfl:i=n:=by omega
    rw[← hq0]
    clear hq0
    simp(maxSteps:=4000000) only[go_sem,↓zj,hd]
    exact zo.of_eq (congrArg V.bool (decide_eq_true (zgl hf)).symm)
 ·have hdd:decide ((n:Int)=(m:Int))=false:=decide_eq_false (by omega)
  simp only[f35]
  rw[zb (Nat.le_of_ble_eq_true rfl)]
  simp(maxSteps:=4000000) only[go_sem,↓zj,hpa,hpb,hdd]
  exact zo.of_eq (congrArg V.bool (decide_eq_false fun q=>hnn (zdx q)).symm)
theorem zma:Holds prog G0 36 zin:=by
 refine Holds.of_exC D36 func36 rfl zK (by kernel_rfl) (tab []) (zk trivial) zw fun k0 rl args hpu hpre=>?_
 unfold zin at hpre ⊢
 obtain⟨n,a,rfl,ha⟩:=hpre
 simp only[zE]
 have hpa:=ha.pu
 have hn1:=ha.1
 simp only[f36]
 rw[zb (Nat.le_of_ble_eq_true rfl)]
 simp(maxSteps:=4000000) only[go_sem,↓zj,hpa]
 refine zB.ents (wu.nilArr (d:=3) (l:=(4,1000)) 2 (fun _=>[]) rfl rfl rfl) ?_
 simp(maxSteps:=400000) only[go_sem,↓zj]
 refine zB.loopF (β:=Nat) [(3,3),(5,5),(8,16)] (fun i=>[(3,.msl (4,1000) 0 i),(8,.int .i64 i)]) (fun i=>updH (fun _=>none) (4,1000) (.arr i 2 fun j=>wS (w6 (a j)))) (fun i=>i≤n) (fun i=>n - i) 0 (Nat.zero_le _) ?_ (zy.same ⟨rfl,rfl,fun i hi=>absurd hi (Nat.not_lt_zero i)⟩) ?_
 ·simp(maxSteps:=400000) only[go_sem,↓zj]
  try exact rfl
 ·intro c i hck hi
  have hi:i≤n:=hi
  generalize hq0:exC _ _ _ _ _=gg
  by_cases hlt:i < n
  ·have hd:decide ((i:Int) < (n:Int))=true:=decide_eq_true (by omega)
   have hga:=ha.2 i hlt
   generalize hx:w6 (a i)=x at hga
   obtain⟨x1,x2⟩:=x
   rw[← hq0]
   clear hq0
   simp(maxSteps:=400000) only[go_sem,↓zj,hd,hga,wS]
   exact⟨⟨by omega,by omega⟩,⟨by omega,by omega,wG rfl (vM (x1,x2))⟩,zn (by omega) (by omega),i+1,hlt,by omega,⟨rfl,rfl⟩,zy.arr1 (zd _ _ _) rfl rfl fun j hj=>snoc (f:=fun j=>wS (w6 (a j))) rfl (by show wS (w6 (a i))=_;rw[hx];rfl) hj⟩
  ·have hd:decide ((i:Int) < (n:Int))=false:=decide_eq_false (by omega)
   obtain rfl:i=n:=by omega
   rw[← hq0]
   clear hq0
   simp(maxSteps:=400000) only[go_sem,↓zj,hd]
   rw[if_pos (Nat.zero_add _)]
   rw[show (fun k=>yA (frz 4 (updH (fun _=>none) (4,1000) (.arr i 2 fun j=>wS (w6 (a j))))) (wS (w6 (a (0+k)))))=fun k=>wS (w6 (a k)) from funext fun k=>by rw[ww (vM _).pu,Nat.zero_add]]
   exact znS i a
theorem lSame_ok:Holds prog G0 79 qX:=by
 refine Holds.of_exC D79 func79 rfl zK (by kernel_rfl) (tab [(35,qX),(36,zin)]) (zk ⟨zkJ,zma,trivial⟩) zw fun k0 rl args hpu hpre=>?_
 unfold qX at hpre ⊢
 obtain⟨n,a,m,b,rfl,ha,hb⟩:=hpre
 simp only[zE,zV]
 have hpa:=ha.pu
 have hpb:=hb.pu
 have hl:=its_row ha
 simp only[f79]
 rw[zb (Nat.le_of_ble_eq_true rfl)]
 simp(maxSteps:=4000000) only[go_sem,↓zj,zf,hpa,hpb]
 refine⟨⟨_,_,rfl,ha⟩,⟨_,_,_,_,rfl,hl,hb⟩,zo.of_eq rfl⟩
end Go.Fly.Tryz
