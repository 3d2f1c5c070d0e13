/- Part of a proof. No conditions. -/
import Derived.Test.YtkfbgillhhhdgaaGreatDoorSYORG
import Derived.Test.YtkfbgillhhhdgaaGreatDoorSYORE
import Derived.Test.YtkfbgillhhhdgaaGreatDoorSYOPT
import Derived.Test.YtkfbgillhhhdgaaGreatDoorAX
import Derived.Test.YtkfbgillhhhdgaaGreatDoorSYOOB
import Derived.Test.YtkfbgillhhhdgaaGreatDoorAV
import Derived.Test.YtkfbgillhhhdgaaGreatDoorAQ
set_option linter.unusedSimpArgs false
set_option linter.unusedVariables false
section
set_option maxRecDepth 100000
set_option maxHeartbeats 2000000
namespace Go.Fly.Tryz
open Go Off Go.Proofs.Tryz
def quF:Qu→FuncId
 | .number=>210 | .chain=>212 | .map=>213 | .eligible=>214 | .late=>215 | .money=>216 | .matched=>217
theorem oQ4_ok:Holds prog G0 214 zg0:=by
 refine Holds.of_exC D214 func214 rfl zK (by kernel_rfl) (tab [(114,zfO)]) (zk ⟨zi5,trivial⟩) zw fun k0 rl args hpu hpre=>?_
 unfold zg0 at hpre ⊢
 obtain⟨r,s,rfl,hr,hla⟩:=hpre
 simp only[zE,zr,zN]
 simp only[f214]
 rw[zb (Nat.le_of_ble_eq_true rfl)]
 simp(maxSteps:=4000000) only[go_sem,↓zj]
 exact⟨⟨r,rfl,hr,hla⟩,zo.of_eq rfl⟩
theorem zcV:Holds prog G0 128 (zbL quF):=by
 refine Holds.of_exC D128 func128 rfl zK (by kernel_rfl) (tab [(214,zg0)]) (zk ⟨oQ4_ok,trivial⟩) zw fun k0 rl args hpu hpre=>?_
 unfold zbL at hpre ⊢
 have hpre:args=[]:=hpre
 subst hpre
 simp only[f128]
 rw[zb (Nat.le_of_ble_eq_true rfl)]
 simp(maxSteps:=4000000) only[go_sem,↓zj,List.push_toArray,List.nil_append,List.cons_append,List.cons.injEq,u8_1,u8_2,u8_3,u8_4,u8_5,u8_6,u8_7,u8_8,u8_9,u8_10,u8_11,List.toList_toArray,Array.toList_push,not_false_eq_true]
 exact⟨fun L o h=>(by cases h),fun L=>zo.of_eq (zfB.trans rfl)⟩
theorem zjp:Holds prog G0 56 zdJ:=by
 refine Holds.of_exC D56 func56 rfl zK (by kernel_rfl) (tab [(84,w7),(86,yf)]) (zk ⟨wB,wx,trivial⟩) zw fun k0 rl args hpu hpre=>?_
 unfold zdJ at hpre ⊢
 have hpre:args=[.str []]:=hpre
 subst hpre
 simp only[f56]
 rw[zb (Nat.le_of_ble_eq_true rfl)]
 simp(maxSteps:=4000000) only[go_sem,↓zj]
 refine zB.loopF (β:=Unit) [(2,11),(15,63)] (fun _=>[(5,.nils),(6,.int .i64 0)]) (fun _=>fun _=>none) (fun _=>True) (fun _=>0) () trivial ?_ zy.none ?_
 ·simp(maxSteps:=4000000) only[go_sem,↓zj]
 ·intro ck _ hck _
  generalize hq0:exC _ _ _ _ _=gg
  rw[← hq0]
  clear hq0
  simp(maxSteps:=4000000) only[go_sem,↓zj]
  exact zo.of_eq rfl
theorem oRecs_ok:Holds prog G0 140 (recsC 120):=by
 refine Holds.of_exC D140 func140 rfl zK (by kernel_rfl) (tab [(120,jG)]) (zk ⟨zap,trivial⟩) zw fun k0 rl args hpu hpre=>?_
 unfold recsC at hpre ⊢
 obtain⟨l,rfl,hl,hR⟩:=hpre
 simp only[zE,wF]
 simp only[f140]
 rw[zb (Nat.le_of_ble_eq_true rfl)]
 simp(maxSteps:=4000000) only[go_sem,↓zj,zf,encEv]
 refine zB.ents (wu.nilArr (d:=5) (l:=(4,1000)) 1 (fun _=>[]) rfl rfl rfl) ?_
 simp(maxSteps:=4000000) only[go_sem,↓zj]
 refine zB.loopF (β:=Nat) [(5,5),(7,7),(10,20)] (fun i=>[(5,.msl (4,1000) 0 i),(10,.int .i64 i)]) (fun i=>updH (fun _=>none) (4,1000) (.arr i 1 (fun i=>[.str (yT (el l i))]))) (fun i=>i≤l.length) (fun i=>l.length - i) 0 (Nat.zero_le _) ?_ (zy.arr1 (zd _ _ _) rfl rfl fun i hi=>by omega) ?_
 ·simp(maxSteps:=4000000) only[go_sem,↓zj]
  try simp
 ·intro ck i hck hi
  generalize hq0:exC _ _ _ _ _=gg
  by_cases hlt:i < l.length
  ·have hd:decide ((i:Int) < (l.length:Int))=true:=by simp;omega
   rw[← hq0]
   clear hq0
   simp(maxSteps:=4000000) only[go_sem,↓zj,hd,zf,encEv]
   exact⟨⟨by omega,by omega⟩,⟨el l i,rfl,hR _ (wd hlt)⟩,⟨by omega,by omega,wG rfl yx⟩,zn (by omega) (by omega),i+1,hlt,by omega,⟨rfl,rfl⟩,zy.arr1 (zd _ _ _) rfl rfl fun j hj=>snoc (f:=fun i=>[.str (yT (el l i))]) rfl rfl hj⟩
  ·have hd:decide ((i:Int) < (l.length:Int))=false:=by simp;omega
   obtain rfl:i=l.length:=by omega
   rw[← hq0]
   clear hq0
   simp(maxSteps:=4000000) only[go_sem,↓zj,hd,Nat.zero_add]
   exact wP (by simp) fun i hi=>by rw[vD yT l (by simpa using hi)]
theorem oLog_ok:Holds prog G0 73 logC:=by
 refine Holds.of_exC D73 func73 rfl zK (by kernel_rfl) (tab [(120,jG),(139,zgS),(140,recsC 120)]) (zk ⟨zap,ze3,oRecs_ok,trivial⟩) zw fun k0 rl args hpu hpre=>?_
 unfold logC at hpre ⊢
 obtain⟨h,rfl,hn,hR⟩:=hpre
 simp only[zE,zr,jb]
 simp only[f73]
 rw[zb (Nat.le_of_ble_eq_true rfl)]
 simp(maxSteps:=4000000) only[go_sem,↓zj,zz,zg]
 have hjb:zfx (h.events.map yT).length (fun i=>[V.str (el (h.events.map yT) i)]) []=logE h.events:=by
  unfold zfx logE
  congr 1
  exact jH (h.events.map yT)
 have hjl:(logE h.events).length≤140737488355328:=by
  have h1:=zgR (l:=h.events.map yT) (sep:=[]) (m:=3000) fun x hx=>by
   obtain⟨e,he,rfl⟩:=List.mem_map.1 hx
   exact zbH (hR e he)
  rw[List.length_map] at h1
  simp only[List.length_nil] at h1
  unfold logE
  omega
 rw[hjb]
 have hml:(h.events.map yT).length=h.events.length:=List.length_map ..
 exact⟨⟨h.events,rfl,by omega,hR⟩,⟨⟨by omega,fun i hi=>rfl⟩,by omega,hjl⟩,zo.of_eq rfl⟩
theorem oApp0_ok:Holds prog G0 55 app0C:=by
 refine Holds.of_exC D55 func55 rfl zK (by kernel_rfl) (tab [(18,za7),(56,zdJ),(84,w7),(86,yf),(120,jG),(zm 3,zG)]) (zk ⟨jt,zjp,wB,wx,zap,za,trivial⟩) zw fun k0 rl args hpu hpre=>?_
 unfold app0C at hpre ⊢
 obtain⟨e,rfl,he,h1,hb⟩:=hpre
 simp only[zV,zq,wH]
 have w0:zv [0,eventE e,err (!decide (e.num=1)) 11]=0:=by
  rw[he,h1]
  decide
 have dw:decide (zv [0,eventE e,err (!decide (e.num=1)) 11]=0)=true:=decide_eq_true w0
 have hrl:=zbH (RecOk.of he)
 simp only[f55]
 rw[zb (Nat.le_of_ble_eq_true rfl)]
 simp(maxSteps:=4000000) only[go_sem,↓zj,encEv,dw]
 exact⟨⟨e,rfl,hb⟩,zn (by decide) (by decide),⟨e,rfl,RecOk.of he⟩,by omega,fun h=>absurd h (by omega),fun _=>zo.of_eq rfl⟩
theorem oAskQ_ok:Holds prog G0 129 (askQC quF):=by
 refine Holds.of_exC D129 func129 rfl zK (by kernel_rfl) (tab [(139,zgS),(182,vT),(186,zaS),(206,k9),(214,zg0),(zm 4,zG)]) (zk ⟨ze3,vX,qo,zbS,oQ4_ok,za,trivial⟩) zw fun k0 rl args hpu hpre=>?_
 unfold askQC at hpre ⊢
 obtain⟨h,q,ws,rfl,hp⟩:=hpre
 simp only[zE,zV,zr,jb]
 obtain⟨hr,hla,⟨rfl,rfl,hjl,hel⟩ | ⟨s,rfl,hs,rfl,hsl,hno⟩⟩:=hp
 ·have hz:([]:List Str).length=0:=rfl
  by_cases hn:h.now.eligible.length=0
  ·have dn:decide ((h.now.eligible.length:Int)=0)=true:=decide_eq_true (by omega)
   simp only[f129]
   rw[zb (Nat.le_of_ble_eq_true rfl)]
   simp(maxSteps:=4000000) only[go_sem,↓zj,zz,quK,Qu.of,quF,zg,dn,hz]
   refine⟨⟨_,rfl,by simp⟩,⟨_,_,rfl,hr,hla⟩,?_⟩
   show zo _ (.tup [.str (joinN h.now.eligible),.int .i64 0])
   rw[joinN,if_pos hn]
   exact zo.of_eq rfl
  ·have dn:decide ((h.now.eligible.length:Int)=0)=false:=decide_eq_false (by omega)
   simp only[f129]
   rw[zb (Nat.le_of_ble_eq_true rfl)]
   simp(maxSteps:=4000000) only[go_sem,↓zj,zz,quK,Qu.of,quF,zg,dn,hz]
   have hjb:zfx h.now.eligible.length (fun i=>[V.str (el h.now.eligible i)]) [32]=joinN h.now.eligible:=by
    rw[joinN,if_neg hn]
    unfold zfx
    congr 1
    exact jH _
   rw[hjb]
   exact⟨⟨_,rfl,by simp⟩,⟨_,_,rfl,hr,hla⟩,⟨⟨by omega,fun i hi=>rfl⟩,by omega,by omega⟩,zo.of_eq rfl⟩
 ·have hz:([s]:List Str).length=1:=rfl
  have dm:decide (s∈h.now.namesOf 104)=false:=decide_eq_false hno
  have hw:(⟨[s],false⟩:Tk).word=(s,⟨[],false⟩):=by unfold Tk.word;simp only;rw[if_neg hs]
  have hnx:(⟨[s],false⟩:Tk).next=.sl 0 1 fun i=>[.str (el [] i)]:=by unfold Tk.next;simp only;rw[if_neg hs];rfl
  simp only[f129]
  rw[zb (Nat.le_of_ble_eq_true rfl)]
  simp(maxSteps:=4000000) only[go_sem,↓zj,zz,quK,Qu.of,quF,zg,hz]
  refine .inl fun hX2=>(kw hX2 (t:=⟨[s],false⟩) (zd _ _ _) (.inr rfl) ?_).mono fun r hp' ck' ⟨h1,h2,hck⟩=>?_
  ·exact⟨by simp,fun w hw=>by obtain rfl:=List.mem_singleton.1 hw;omega⟩
  ·rw[hw] at h1 h2
   rw[hnx] at h2
   subst h1
   subst h2
   simp(maxSteps:=4000000) only[go_sem,↓zj,yV,dm]
   exact⟨⟨_,rfl,by omega⟩,⟨_,_,rfl,hr⟩,⟨_,_,_,rfl,zbv (hr.names _)⟩,zo.of_eq rfl⟩
theorem oDoQ_ok:Holds prog G0 69 doQC:=by
 refine Holds.of_exC D69 func69 rfl zK (by kernel_rfl) (tab [(18,za7),(83,wX vV y9),(84,w7),(86,yf),(95,ku),(111,ze4),(127,zbB),(128,zbL quF),(129,askQC quF),(130,za6)]) (zk ⟨jt,zY,wB,wx,jN,k8,zfw,zcV,oAskQ_ok,zi4,trivial⟩) zw fun k0 rl args hpu hpre=>?_
 unfold doQC at hpre ⊢
 obtain⟨h,s,q,rfl,hs,hl,hq,hp⟩:=hpre
 simp only[zE,zV,zr,jb,zF]
 have ds:decide (s=[])=false:=decide_eq_false hs
 have dl:decide ((s.length:Int) > 4096)=false:=decide_eq_false (by omega)
 obtain⟨w,ws,hsp⟩:∃ w ws,yn 32 s=w::ws:=by
  cases hc:yn 32 s with
  | nil=>rw[hc] at hq;cases hq
  | cons w ws=>exact⟨w,ws,rfl⟩
 have hel:el (w::ws) 0=w:=rfl
 have hel1:(fun i=>[V.str (el (w::ws) (1+i))])=fun i=>[V.str (el ws i)]:=funext fun i=>by rw[ziM]
 rw[hsp] at hq hp
 have hq:zhJ w=some q:=hq
 simp only[f69]
 rw[zb (Nat.le_of_ble_eq_true rfl)]
 simp(maxSteps:=4000000) only[go_sem,↓zj,zz,zg,hsp,hel,hel1,hq,ds,dl]
 have hq2:askS h.now (zld (quK quF q))=doS h s:=by
  unfold doS
  rw[hsp,hel,hq]
  obtain⟨-,-,⟨rfl,-⟩ | ⟨-,rfl,-⟩⟩:=hp <;> rfl
 refine⟨fun h0=>absurd h0 (by decide),fun _=>⟨⟨s,32,rfl,by omega⟩,by omega,by omega,⟨h,q,ws,rfl,hp⟩,?_⟩⟩
 show zo (.tup [.str (askS (jk (zz h)).now (zld (quK quF q))).1,.int .i64 (askS (jk (zz h)).now (zld (quK quF q))).2]) _
 rw[jb,hq2]
 exact zo.of_eq rfl
set_option maxHeartbeats 1000000
theorem zf7 {n:Nat}{dead d2:List (Nat×Nat)}{g f:Nat→V}(h:∀ e,inD d2 e→inD dead e):Fly.Off n dead (zb8 d2 g) f=Fly.Off n dead g f:=propext ⟨fun q e h1 h2=>by
 have:=q e h1 h2
 rwa [kA fun z=>h2 (h e z)] at this,fun q e h1 h2=>by rw[kA fun z=>h2 (h e z)];exact q e h1 h2⟩
theorem oSeal_ok:Holds prog G0 194 zgj:=by
 refine Holds.of_exC D194 func194 rfl zK (by kernel_rfl) (tab []) (zk trivial) zw fun k0 rl args hpu hpre=>?_
 unfold zgj at hpre ⊢
 obtain⟨k,n,get,s,rfl,hk,hb,hs⟩:=hpre
 have hdb:=qx hb
 simp only[zE,zV,zq,zaA,hdb]
 obtain⟨rfl,hg⟩:=hb
 have hpu:Pu (.sl s.length 1 get)↔True:=iff_true_intro (vW.2 fun i hi v hv=>by rw[hg i hi,List.mem_singleton] at hv;subst hv;exact .int _ _)
 simp only[f194]
 rw[zb (Nat.le_of_ble_eq_true rfl)]
 simp(maxSteps:=4000000) only[go_sem,↓zj,hpu]
 have hk8:=hk.len
 have hz:=zj7 hk8 s
 refine zB.loopF (β:=Nat) [(5,6),(8,40)] (fun j=>[(9,.int .i64 j)]) (fun j=>updH (updH (fun _=>none) (2,2) (.cells (wj (qg k s j)))) (2,4) (.cells [.int .u8 0,.int .u8 0,.int .u8 0,.int .u8 0,.int .u8 0,.int .u8 0,.int .u8 0,.int .u8 0])) (fun j=>j≤8) (fun j=>8 - j) 0 (Nat.zero_le _) ?_ (zy.upd (zy.upd zy.none ⟨_,rfl,by rw[hz];exact ObjLe.refl _⟩) ⟨_,zd _ _ _,ObjLe.refl _⟩) ?_
 ·simp(maxSteps:=400000) only[go_sem,↓zj]
 ·intro c j hck hj
  have hj:j≤8:=hj
  generalize hq0:exC _ _ _ _ _=gg
  by_cases hlt:j < 8
  ·have hd:decide ((j:Int) < 8)=true:=decide_eq_true (by omega)
   have hka:=zme (K:=qg k s j) (j:=j) (by rw[vo];exact hlt)
   rw[sealK_at k s j hlt,if_neg (Nat.lt_irrefl _)] at hka
   have hkb:=hk.el hlt
   rw[← hq0]
   clear hq0
   simp(maxSteps:=400000) only[go_sem,↓zj,hd,w864,if_true,hka]
   refine⟨⟨by omega,by omega⟩,zn (by omega) (by omega),?_⟩
   refine zB.loopF (β:=Nat) [(6,6),(8,8),(18,35)] (fun i=>[(6,.int .i64 (qQ j (el k j) s i)),(18,.int .i64 i)]) (fun i=>updH (updH (fun _=>none) (2,2) (.cells (wj (qg k s j)))) (2,4) (.cells [.int .u8 0,.int .u8 0,.int .u8 0,.int .u8 0,.int .u8 0,.int .u8 0,.int .u8 0,.int .u8 0])) (fun i=>i≤s.length) (fun i=>s.length - i) 0 (Nat.zero_le _) ?_ (zy.refl _) ?_
   ·simp(maxSteps:=400000) only[go_sem,↓zj]
    exact rfl
   ·intro c2 i hck2 hi
    have hi:i≤s.length:=hi
    have hsb:=zdt (j:=(j:Int)) (x:=el k j) (by omega) hkb s i
    have hmul:=zhy (j:=(j:Int)) (by omega) hsb
    generalize hq1:exC _ _ _ _ _=gg
    by_cases hlt2:i < s.length
    ·have hd2:decide ((i:Int) < (s.length:Int))=true:=decide_eq_true (by omega)
     have hgi:=hg i hlt2
     have hu:=u8_le (s.getD i 0)
     rw[← hq1]
     clear hq1
     simp(maxSteps:=400000) only[go_sem,↓zj,hd2,w864,if_true,hgi]
     rw[List.getD_eq_getElem?_getD] at hu
     refine⟨⟨by omega,by omega⟩,zn (by omega) (by omega),zn (by omega) (by omega),zn (by omega) (by omega),zn (by omega) (by omega),zn (by omega) (by omega),zn (by omega) (by omega),zn (by omega) (by omega),zn (by omega) (by omega),zn (by omega) (by omega),by omega,i+1,hlt2,by omega,⟨?_,rfl⟩,zy.refl _⟩
     show _=V.int .i64 (((4 * (j:Int)+3) * qQ j (el k j) s i+(((s.getD i 0).toNat:Nat):Int)+5 * j+2).tmod 256)
     rw[List.getD_eq_getElem?_getD]
    ·have hd2:decide ((i:Int) < (s.length:Int))=false:=decide_eq_false (by omega)
     obtain rfl:i=s.length:=by omega
     have hka2:=zme (K:=qg k s j) (j:=j) (by rw[vo];exact hlt)
     have hset:=zkH k s hlt
     have hle:(0+j * 1+1≤(wj (qg k s j)).length)=True:=eq_true (by rw[qJ,vo];omega)
     have hw:=wrap8 hsb
     rw[← hq1]
     clear hq1
     simp(maxSteps:=400000) only[go_sem,↓zj,hd2,w648,if_false,hle,hw,hset]
     refine⟨⟨by omega,by omega⟩,zn (by omega) (by omega),j+1,hlt,by omega,⟨by rw[Int.natCast_add];rfl,?_⟩,?_⟩
     ·rw[zf7 (fun e he=>by simp[inD] at he ⊢;omega)]
      simp(maxSteps:=400000) only[go_sem,↓zj]
     ·refine zy.upd (zy.upd zy.none ⟨_,zd _ _ _,ObjLe.refl _⟩) ⟨_,?_,ObjLe.refl _⟩
      rw[zc (by simp),zd]
  ·have hd:decide ((j:Int) < 8)=false:=decide_eq_false (by omega)
   obtain rfl:j=8:=by omega
   have hall:=qp (vo k s 8)
   have hc1:=jX (vo k s 8)
   have hc2:=ja (vo k s 8)
   have hc3:=kC (vo k s 8)
   rw[← hq0]
   clear hq0
   simp(maxSteps:=400000) only[go_sem,↓zj,hd,hall,hc1,hc2,hc3]
   exact zo.of_eq rfl
theorem zlA:Holds prog G0 112 zhz:=by
 refine Holds.of_exC D112 func112 rfl zK (by kernel_rfl) (tab [(194,zgj),(zm 2,zG)]) (zk ⟨oSeal_ok,za,trivial⟩) zw fun k0 rl args hpu hpre=>?_
 unfold zhz at hpre ⊢
 obtain⟨k,n,get,s,rfl,hk,hb,hs⟩:=hpre
 have hdb:=qx hb
 simp only[zE,zV,zq,zaA,hdb]
 obtain⟨hn,hg⟩:=id hb
 subst hn
 have hpu:Pu (.sl s.length 1 get)↔True:=iff_true_intro (vW.2 fun i hi v hv=>by rw[hg i hi,List.mem_singleton] at hv;subst hv;exact .int _ _)
 have hall:=qp hk.len
 have hc1:=jX (yg k s)
 have hc2:=ja (yg k s)
 have hc3:=kC (yg k s)
 have hall2:=qp (yg k s)
 by_cases h4:400000 < s.length
 ·have hd:decide ((400000:Int) < (s.length:Int))=true:=decide_eq_true (by omega)
  simp only[f112]
  rw[zb (Nat.le_of_ble_eq_true rfl)]
  simp(maxSteps:=4000000) only[go_sem,↓zj,hpu,hd,hall]
  refine zo.of_eq ?_
  unfold zcH
  rw[if_pos h4]
  rfl
 ·have hd:decide ((400000:Int) < (s.length:Int))=false:=decide_eq_false (by omega)
  simp only[f112]
  rw[zb (Nat.le_of_ble_eq_true rfl)]
  simp(maxSteps:=4000000) only[go_sem,↓zj,hpu,hd,hall,hdb,hc1,hc2,hc3,hall2]
  refine⟨⟨k,_,get,s,rfl,hk,⟨rfl,hg⟩,hs⟩,zo.of_eq ?_⟩
  unfold zcH
  rw[if_neg h4]
end Go.Fly.Tryz
end
