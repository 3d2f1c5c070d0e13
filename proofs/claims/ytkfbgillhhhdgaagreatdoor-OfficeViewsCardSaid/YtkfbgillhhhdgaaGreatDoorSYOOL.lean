/- Part of a proof. No conditions. -/
import Derived.Test.YtkfbgillhhhdgaaGreatDoorSYOOG
import Derived.Test.YtkfbgillhhhdgaaGreatDoorSYOOJ
import Derived.Test.YtkfbgillhhhdgaaGreatDoorAO
set_option linter.unusedSimpArgs false
set_option linter.unusedVariables false
section
set_option maxRecDepth 100000
set_option maxHeartbeats 1000000
namespace Go.Fly.Tryz
open Go Off Go.Proofs.Tryz
theorem zbR:Holds prog G0 160 (kY 161):=by
 refine Holds.of_exC D160 func160 rfl zK (by kernel_rfl) (tab [(161,zif)]) (zk ⟨zlL,trivial⟩) zw fun k0 rl args hpu hpre=>?_
 unfold kY at hpre ⊢
 obtain⟨r,l,rfl,hl,hc⟩:=hpre
 simp only[zE,zV,zce,zN]
 simp only[f160]
 rw[zb (Nat.le_of_ble_eq_true rfl)]
 simp(maxSteps:=4000000) only[go_sem,↓zj,zf,zZ]
 refine zB.ents (wu.nilArr (d:=5) (l:=(4,1000)) 1 (fun _=>[]) rfl rfl rfl) ?_
 simp(maxSteps:=4000000) only[go_sem,↓zj]
 refine zB.loopF (β:=Nat) [(5,5),(7,7),(10,20)] (fun i=>[(5,.msl (4,1000) 0 i),(10,.int .i64 i)]) (fun i=>updH (fun _=>none) (4,1000) (.arr i 1 (fun i=>[.int .i64 (r.level levelE (el l i))]))) (fun i=>i≤l.length) (fun i=>l.length - i) 0 (Nat.zero_le _) ?_ (zy.arr1 (zd _ _ _) rfl rfl fun i hi=>by omega) ?_
 ·simp(maxSteps:=4000000) only[go_sem,↓zj]
  try simp
 ·intro ck i hck hi
  generalize hq0:exC _ _ _ _ _=gg
  by_cases hlt:i < l.length
  ·have hd:decide ((i:Int) < (l.length:Int))=true:=by simp;omega
   rw[← hq0]
   clear hq0
   simp(maxSteps:=4000000) only[go_sem,↓zj,hd,zf,zZ]
   exact⟨⟨by omega,by omega⟩,⟨r,el l i,rfl,hc _ (wd hlt)⟩,⟨by omega,by omega,wG rfl qG⟩,zn (by omega) (by omega),i+1,hlt,by omega,⟨rfl,rfl⟩,zy.arr1 (zd _ _ _) rfl rfl fun j hj=>snoc (f:=fun i=>[.int .i64 (r.level levelE (el l i))]) rfl rfl hj⟩
  ·have hd:decide ((i:Int) < (l.length:Int))=false:=by simp;omega
   obtain rfl:i=l.length:=by omega
   rw[← hq0]
   clear hq0
   simp(maxSteps:=4000000) only[go_sem,↓zj,hd,Nat.zero_add]
   exact⟨(4,1000),l.length,1,_,_,rfl,if_pos rfl,fun _ _=>rfl,rfl,rfl,vL (sz:=1) (f:=fun h=>[.int .i64 (r.level levelE h)]) (fun x=>qG.pu) l⟩
theorem zgn {cells:List V}{sz:Nat}(hl:cells.length=sz)(h:∀ v∈cells,(Pu v∨jg v=true)∧jM v=true):∀ i,i < 1→∀ v,v∈wa cells sz i→(Pu v∨jg v=true)∧jM v=true:=by
 intro i hi v hv
 have:i=0:=by omega
 subst this
 unfold wa at hv
 rw[Nat.zero_mul,List.drop_zero,← hl,List.take_length] at hv
 exact h v hv
theorem zir {S:Heap}{l:Loc}{o o':AObj}(h:S l=some o)(hle:ObjLe o o'):zy S (updH S l o'):=by
 intro l2 o2 h2
 by_cases q:l2=l
 ·subst q
  rw[zd] at h2
  cases h2
  exact⟨o,h,hle⟩
 ·rw[zc q] at h2
  exact⟨o2,h2,ObjLe.refl _⟩
theorem onesM {s:Str}{b:Int}{l:Loc}{m:Nat}:∀ v∈[V.str s,V.int .i64 b,V.msl l 0 m],(Pu v∨jg v=true)∧jM v=true:=fun v hv=>by
 simp only[List.mem_cons,List.not_mem_nil,or_false] at hv
 rcases hv with rfl | rfl | rfl
 ·exact⟨.inl (.str _),rfl⟩
 ·exact⟨.inl (.int _ _),rfl⟩
 ·exact⟨.inr rfl,rfl⟩
theorem ints1 {f:Nat→Int}{P:V→Prop}(hP:∀ n,P (.int .i64 n))(i j:Nat)(v:V)(hv:[V.int .i64 (f i)][j]?=some v):P v:=by
 cases j with
 | zero =>
   simp only[List.getElem?_cons_zero,Option.some.injEq] at hv
   subst hv
   exact hP _
 | succ j=>simp at hv
theorem ziA {Γ:FuncId→Option Contract}{r0:Option Nat}{k0:K}{H:Heap}{ck:Nat}{Kn:V→Heap→Nat→Prop}(hX:(⟨prog,Γ,G0,r0,k0⟩:Cx).Ok){y:Lay}{r:Reg}{e:Ev}(hat:RegAt H y r)(hy:LayOk y ck)(hf:∀ l:Loc,ck < l.1→H l=none)
 (hr:RL r) (hv:e.vals.length=1) (hn:e.names.length=1) (hc:∀ h∈r.houses,ChainOk r h.share) (hKn:∀ ck',ck≤ck'→Kn (.tup []) (zx H y (zu levelE r e .publish)) ck') :
 zp ⟨prog,Γ,G0,r0,k0⟩ H ck 159 [.ptr y.box y.off,.agg (encEv e)] Kn:=by
 have hyo:=hy
 have hato:=hat
 obtain⟨box,pre,n0,n1,n2,n3,n4,n5⟩:=y
 have h0:=hy.hi box (by simp[Lay.locs])
 have h1:=hy.hi n3 (by simp[Lay.locs])
 have f1:=fun d=>hf (ck+1,d) (by show ck < ck+1;omega)
 have f2:=fun d=>hf (ck+1+1,d) (by show ck < ck+1+1;omega)
 have f3:=fun d=>hf (ck+1+1+1,d) (by show ck < ck+1+1+1;omega)
 have f4:=fun d=>hf (ck+1+1+1+1,d) (by show ck < ck+1+1+1+1;omega)
 have e1:=fun d=>yM (l:=box) (ck:=ck) (c:=ck+1+1+1) (d:=d) h0 (by omega)
 have e1g:=fun d=>yL (l:=box) (ck:=ck) (c:=ck+1+1+1) (d:=d) h0 (by omega)
 have e2:=fun d=>yM (l:=n3) (ck:=ck) (c:=ck+1+1+1) (d:=d) h1 (by omega)
 have e2g:=fun d=>yL (l:=n3) (ck:=ck) (c:=ck+1+1+1) (d:=d) h1 (by omega)
 have nd:=hy.nd
 simp only[Lay.locs,List.nodup_cons,List.mem_cons,List.not_mem_nil,or_false,not_or] at nd
 have a1:¬ box=n3:=by obtain⟨⟨b0,b1,b2,b3,b4,b5⟩,-⟩:=nd;exact b3
 have a1':¬ n3=box:=fun q=>a1 q.symm
 have a2:¬ box=n1:=by obtain⟨⟨b0,b1,b2,b3,b4,b5⟩,-⟩:=nd;exact b1
 have a2':¬ n1=box:=fun q=>a2 q.symm
 have hty:H n3=some (.arr r.maps.length 3 fun i=>wq (el r.maps i)):=hat.maps
 have hto:H n1=some (.arr r.houses.length 2 fun i=>zZ (el r.houses i)):=hat.houses
 obtain⟨r1,r2,r3,r4,r5,r6⟩:=id hr
 rcases hy.pre with q | ⟨u1,u2,q⟩
 ·have q:pre=[]:=q
  subst q
  have hbx:H box=some (.cells [.int .i64 r.day,.msl n0 0 r.types.length,.msl n1 0 r.houses.length,.msl n2 0 r.flights.length,.msl n3 0 r.maps.length,.msl n4 0 r.offers.length,.msl n5 0 r.complaints.length,.int .i64 r.fund]):=hat.box
  show zp _ H ck 159 [.ptr box 0,.agg (encEv e)] Kn
  have hfz:frz 4 H (.ptr box 0)=.cptr (zt r):=zmv 1 hato
  have hsl:(V.sl r.houses.length 2 fun i=>zZ (el r.houses i))=zf 2 zZ r.houses:=rfl
  refine zp.post (zp.less (zp.inline hX func159 rfl zK (D:=D159) (by kernel_rfl) (tab [(160,kY 161),(zm 3,zG),(yJ 26,zG)]) (zk ⟨zbR,za,za,trivial⟩) fun k1=>?_))
  simp only[f159]
  rw[zA (Nat.le_of_ble_eq_true rfl)]
  simp(maxSteps:=400000) only[go_sem,↓zj,encEv,zg,zh,hbx,hty,hto,f1,f2,f3,f4,a1,a1',a2,a2',e1,e1g,e2,e2g,hfz,hsl,Nat.zero_add]
  have b1:¬ n3=(ck+1+1+1,23):=by rw[e2 23];exact id
  have b2:¬ box=(ck+1+1+1,23):=by rw[e1 23];exact id
  have b2':¬ (ck+1+1+1,23)=box:=by rw[e1g 23];exact id
  have b1':¬ (ck+1+1+1,23)=n3:=by rw[e2g 23];exact id
  refine⟨by omega,by omega,⟨⟨r,r.houses,rfl,r2,hc⟩,.msl _ _ _,fun i j v _ hv=>ints1 (f:=fun i=>r.level levelE (el r.houses i)) (fun _=>.int _ _) i j v hv⟩,⟨by omega,by omega,zgn rfl onesM⟩,_,zir (l:=(ck+1+1+1,23)) (o:=.arr r.houses.length 1 fun i=>[.int .i64 (r.level levelE (el r.houses i))]) (o':=.arr r.houses.length 1 fun i=>[.int .i64 (el (r.houses.map (r.level levelE)) i)]) (by simp only[zdl,if_neg b2',if_neg b1',Prod.mk.injEq,Nat.reduceEqDiff,and_false,if_false,if_true,and_self]) ⟨rfl,rfl,fun i hi=>congrArg (fun x=>[V.int .i64 x]) (vD (r.level levelE) r.houses hi)⟩,.tup [],zx H _ (zu levelE r e .publish),ck+1+1+1+1+1,fun k0=>?_,hKn _ ?_⟩
  ·refine wu.trans (wu.killR (l:=(ck+1+1+1,23)) (l2:=n3) (n:=r.houses.length) (sz:=1) (get:=fun i=>[.int .i64 (el (r.houses.map (r.level levelE)) i)]) (i0:=r.maps.length) (j0:=2) b1
    (zd _ _ _) ((zc b1).trans <| (zc a1').trans (zd _ _ _)) (Nat.lt_succ_self _) ?_ fun i j v _ hv=>ints1 (f:=fun i=>el (r.houses.map (r.level levelE)) i) (fun _=>.int _ _) i j v hv) (wu.go (tm':=[.tup []]) ⟨.inr rfl,trivial⟩ ?_)
   ·simp only[Nat.lt_irrefl,if_false,Nat.sub_self]
    rfl
   ·refine zhK (r':=zu levelE r e .publish) hyo hato hf (by repeat (first | exact Chg.refl _ _ _ | refine Chg.mem ?_ (List.mem_cons_self ..) | refine Chg.mem ?_ (List.mem_cons_of_mem _ (List.mem_cons_self ..)) | refine Chg.new ?_ (by show ck < _;omega))) ((zc a1).trans <| (zc b2).trans <| (zc b2).trans <| (zd _ _ _).trans (congrArg (fun cs=>some (AObj.cells cs)) (by simp only[regCells,zu,List.length_append];rfl)))
     ⟨_,zd _ _ _,wK (f:=wq) (l:=r.maps) (x:=⟨e.nm 0,e.vl 0,r.houses.map (r.level levelE)⟩) rfl fun j hj=>?_⟩ rfl rfl rfl rfl rfl
    by_cases q:j < r.maps.length
    ·rw[if_neg (by omega),if_pos q,qK q]
    ·obtain rfl:j=r.maps.length:=by omega
     rw[if_pos rfl,if_neg (Nat.lt_irrefl _),Nat.sub_self,zec rfl]
     show [V.str (e.nm 0),.int .i64 (e.vl 0),zh (r.houses.map (r.level levelE))]=_
     unfold zh
     rw[List.length_map]
     rfl
  ·omega
 ·have q:pre=[u1,u2]:=q
  subst q
  have hbx:H box=some (.cells [u1,u2,.int .i64 r.day,.msl n0 0 r.types.length,.msl n1 0 r.houses.length,.msl n2 0 r.flights.length,.msl n3 0 r.maps.length,.msl n4 0 r.offers.length,.msl n5 0 r.complaints.length,.int .i64 r.fund]):=hat.box
  show zp _ H ck 159 [.ptr box 2,.agg (encEv e)] Kn
  have hfz:frz 4 H (.ptr box 2)=.cptr (zt r):=zmv 1 hato
  have hsl:(V.sl r.houses.length 2 fun i=>zZ (el r.houses i))=zf 2 zZ r.houses:=rfl
  refine zp.post (zp.less (zp.inline hX func159 rfl zK (D:=D159) (by kernel_rfl) (tab [(160,kY 161),(zm 3,zG),(yJ 26,zG)]) (zk ⟨zbR,za,za,trivial⟩) fun k1=>?_))
  simp only[f159]
  rw[zA (Nat.le_of_ble_eq_true rfl)]
  simp(maxSteps:=400000) only[go_sem,↓zj,encEv,zg,zh,hbx,hty,hto,f1,f2,f3,f4,a1,a1',a2,a2',e1,e1g,e2,e2g,hfz,hsl,Nat.zero_add]
  have b1:¬ n3=(ck+1+1+1,23):=by rw[e2 23];exact id
  have b2:¬ box=(ck+1+1+1,23):=by rw[e1 23];exact id
  have b2':¬ (ck+1+1+1,23)=box:=by rw[e1g 23];exact id
  have b1':¬ (ck+1+1+1,23)=n3:=by rw[e2g 23];exact id
  refine⟨by omega,by omega,⟨⟨r,r.houses,rfl,r2,hc⟩,.msl _ _ _,fun i j v _ hv=>ints1 (f:=fun i=>r.level levelE (el r.houses i)) (fun _=>.int _ _) i j v hv⟩,⟨by omega,by omega,zgn rfl onesM⟩,_,zir (l:=(ck+1+1+1,23)) (o:=.arr r.houses.length 1 fun i=>[.int .i64 (r.level levelE (el r.houses i))]) (o':=.arr r.houses.length 1 fun i=>[.int .i64 (el (r.houses.map (r.level levelE)) i)]) (by simp only[zdl,if_neg b2',if_neg b1',Prod.mk.injEq,Nat.reduceEqDiff,and_false,if_false,if_true,and_self]) ⟨rfl,rfl,fun i hi=>congrArg (fun x=>[V.int .i64 x]) (vD (r.level levelE) r.houses hi)⟩,.tup [],zx H _ (zu levelE r e .publish),ck+1+1+1+1+1,fun k0=>?_,hKn _ ?_⟩
  ·refine wu.trans (wu.killR (l:=(ck+1+1+1,23)) (l2:=n3) (n:=r.houses.length) (sz:=1) (get:=fun i=>[.int .i64 (el (r.houses.map (r.level levelE)) i)]) (i0:=r.maps.length) (j0:=2) b1
    (zd _ _ _) ((zc b1).trans <| (zc a1').trans (zd _ _ _)) (Nat.lt_succ_self _) ?_ fun i j v _ hv=>ints1 (f:=fun i=>el (r.houses.map (r.level levelE)) i) (fun _=>.int _ _) i j v hv) (wu.go (tm':=[.tup []]) ⟨.inr rfl,trivial⟩ ?_)
   ·simp only[Nat.lt_irrefl,if_false,Nat.sub_self]
    rfl
   ·refine zhK (r':=zu levelE r e .publish) hyo hato hf (by repeat (first | exact Chg.refl _ _ _ | refine Chg.mem ?_ (List.mem_cons_self ..) | refine Chg.mem ?_ (List.mem_cons_of_mem _ (List.mem_cons_self ..)) | refine Chg.new ?_ (by show ck < _;omega))) ((zc a1).trans <| (zc b2).trans <| (zc b2).trans <| (zd _ _ _).trans (congrArg (fun cs=>some (AObj.cells cs)) (by simp only[regCells,zu,List.length_append];rfl)))
     ⟨_,zd _ _ _,wK (f:=wq) (l:=r.maps) (x:=⟨e.nm 0,e.vl 0,r.houses.map (r.level levelE)⟩) rfl fun j hj=>?_⟩ rfl rfl rfl rfl rfl
    by_cases q:j < r.maps.length
    ·rw[if_neg (by omega),if_pos q,qK q]
    ·obtain rfl:j=r.maps.length:=by omega
     rw[if_pos rfl,if_neg (Nat.lt_irrefl _),Nat.sub_self,zec rfl]
     show [V.str (e.nm 0),.int .i64 (e.vl 0),zh (r.houses.map (r.level levelE))]=_
     unfold zh
     rw[List.length_map]
     rfl
  ·omega
theorem ap1_call {Γ:FuncId→Option Contract}{r0:Option Nat}{k0:K}{H:Heap}{ck:Nat}{Kn:V→Heap→Nat→Prop}(hX:(⟨prog,Γ,G0,r0,k0⟩:Cx).Ok){y:Lay}{r:Reg}{e:Ev}(hat:RegAt H y r)(hy:LayOk y ck)(hf:∀ l:Loc,ck < l.1→H l=none)
 (hk:kindOf e.kind=some .type) (hp:AppPre r e .type) (hKn:∀ ck',ck≤ck'→Kn (.tup []) (zx H y (w9 levelE r e)) ck') :
 zp ⟨prog,Γ,G0,r0,k0⟩ H ck 208 [.ptr y.box y.off,.agg (encEv e)] Kn:=by
 have hvl:=hp.vals
 have hnm:=hp.names
 have hr:=hp.reg.rl
 have hv0:0 < e.vals.length:=by rw[hvl];decide
 have hyo:=hy
 have hato:=hat
 rw[wJ hk] at hKn
 have hbx2:∀ r',zx H y r' y.box=some (.cells (y.pre++regCells y r')):=fun r'=>(wA hy r').box
 have hdy:∀ r' cs,cs=y.pre++regCells y { r' with day:=el e.vals 0 }→updH (zx H y r') y.box (.cells cs)=zx H y { r' with day:=el e.vals 0 }:=fun r' cs h=>vz h
 obtain⟨box,pre,n0,n1,n2,n3,n4,n5⟩:=y
 rcases hy.pre with q | ⟨u1,u2,q⟩
 ·have q:pre=[]:=q
  subst q
  show zp _ H ck 208 [.ptr box 0,.agg (encEv e)] Kn
  refine zp.less (zp.inline hX func208 rfl zK (D:=D208) (by kernel_rfl) (tab [(83,wX vV y9),(zm 3,zG),(wi 11,zG)]) (zk ⟨zY,za,za,trivial⟩) fun k1=>?_)
  simp only[f208]
  rw[zA (Nat.le_of_ble_eq_true rfl)]
  simp(maxSteps:=400000) only[go_sem,↓zj,encEv,zg,zh,hk,y9]
  refine .inl fun hX2=>?_
  refine ziF hX2 hato (hyo.mono (ck':=ck+1+1+1) (by omega)) (fun l hl=>hf l (by have:ck+1+1+1 < l.1:=hl;omega)) hr hvl hnm fun ck2 hck2=>?_
  have hb:=hbx2 (zu levelE r e .type)
  simp only[regCells,List.cons_append,List.nil_append] at hb
  simp(maxSteps:=400000) only[go_sem,↓zj,encEv,zg,zh,hb]
  exact⟨by omega,_,z7 (hdy (zu levelE r e .type) _ rfl),hKn _ (by omega)⟩
 ·have q:pre=[u1,u2]:=q
  subst q
  show zp _ H ck 208 [.ptr box 2,.agg (encEv e)] Kn
  refine zp.less (zp.inline hX func208 rfl zK (D:=D208) (by kernel_rfl) (tab [(83,wX vV y9),(zm 3,zG),(wi 11,zG)]) (zk ⟨zY,za,za,trivial⟩) fun k1=>?_)
  simp only[f208]
  rw[zA (Nat.le_of_ble_eq_true rfl)]
  simp(maxSteps:=400000) only[go_sem,↓zj,encEv,zg,zh,hk,y9]
  refine .inl fun hX2=>?_
  refine ziF hX2 hato (hyo.mono (ck':=ck+1+1+1) (by omega)) (fun l hl=>hf l (by have:ck+1+1+1 < l.1:=hl;omega)) hr hvl hnm fun ck2 hck2=>?_
  have hb:=hbx2 (zu levelE r e .type)
  simp only[regCells,List.cons_append,List.nil_append] at hb
  simp(maxSteps:=400000) only[go_sem,↓zj,encEv,zg,zh,hb]
  exact⟨by omega,_,z7 (hdy (zu levelE r e .type) _ rfl),hKn _ (by omega)⟩
theorem ap2_call {Γ:FuncId→Option Contract}{r0:Option Nat}{k0:K}{H:Heap}{ck:Nat}{Kn:V→Heap→Nat→Prop}(hX:(⟨prog,Γ,G0,r0,k0⟩:Cx).Ok){y:Lay}{r:Reg}{e:Ev}(hat:RegAt H y r)(hy:LayOk y ck)(hf:∀ l:Loc,ck < l.1→H l=none)
 (hk:kindOf e.kind=some .house) (hp:AppPre r e .house) (hKn:∀ ck',ck≤ck'→Kn (.tup []) (zx H y (w9 levelE r e)) ck') :
 zp ⟨prog,Γ,G0,r0,k0⟩ H ck 208 [.ptr y.box y.off,.agg (encEv e)] Kn:=by
 have hvl:=hp.vals
 have hnm:=hp.names
 have hr:=hp.reg.rl
 have hv0:0 < e.vals.length:=by rw[hvl];decide
 have hyo:=hy
 have hato:=hat
 rw[wJ hk] at hKn
 have hbx2:∀ r',zx H y r' y.box=some (.cells (y.pre++regCells y r')):=fun r'=>(wA hy r').box
 have hdy:∀ r' cs,cs=y.pre++regCells y { r' with day:=el e.vals 0 }→updH (zx H y r') y.box (.cells cs)=zx H y { r' with day:=el e.vals 0 }:=fun r' cs h=>vz h
 obtain⟨box,pre,n0,n1,n2,n3,n4,n5⟩:=y
 rcases hy.pre with q | ⟨u1,u2,q⟩
 ·have q:pre=[]:=q
  subst q
  show zp _ H ck 208 [.ptr box 0,.agg (encEv e)] Kn
  refine zp.less (zp.inline hX func208 rfl zK (D:=D208) (by kernel_rfl) (tab [(83,wX vV y9),(zm 3,zG),(wi 11,zG)]) (zk ⟨zY,za,za,trivial⟩) fun k1=>?_)
  simp only[f208]
  rw[zA (Nat.le_of_ble_eq_true rfl)]
  simp(maxSteps:=400000) only[go_sem,↓zj,encEv,zg,zh,hk,y9]
  refine .inl fun hX2=>?_
  refine ziE hX2 hato (hyo.mono (ck':=ck+1+1+1) (by omega)) (fun l hl=>hf l (by have:ck+1+1+1 < l.1:=hl;omega)) hr hvl hnm fun ck2 hck2=>?_
  have hb:=hbx2 (zu levelE r e .house)
  simp only[regCells,List.cons_append,List.nil_append] at hb
  simp(maxSteps:=400000) only[go_sem,↓zj,encEv,zg,zh,hb]
  exact⟨by omega,_,z7 (hdy (zu levelE r e .house) _ rfl),hKn _ (by omega)⟩
 ·have q:pre=[u1,u2]:=q
  subst q
  show zp _ H ck 208 [.ptr box 2,.agg (encEv e)] Kn
  refine zp.less (zp.inline hX func208 rfl zK (D:=D208) (by kernel_rfl) (tab [(83,wX vV y9),(zm 3,zG),(wi 11,zG)]) (zk ⟨zY,za,za,trivial⟩) fun k1=>?_)
  simp only[f208]
  rw[zA (Nat.le_of_ble_eq_true rfl)]
  simp(maxSteps:=400000) only[go_sem,↓zj,encEv,zg,zh,hk,y9]
  refine .inl fun hX2=>?_
  refine ziE hX2 hato (hyo.mono (ck':=ck+1+1+1) (by omega)) (fun l hl=>hf l (by have:ck+1+1+1 < l.1:=hl;omega)) hr hvl hnm fun ck2 hck2=>?_
  have hb:=hbx2 (zu levelE r e .house)
  simp only[regCells,List.cons_append,List.nil_append] at hb
  simp(maxSteps:=400000) only[go_sem,↓zj,encEv,zg,zh,hb]
  exact⟨by omega,_,z7 (hdy (zu levelE r e .house) _ rfl),hKn _ (by omega)⟩
theorem ap3_call {Γ:FuncId→Option Contract}{r0:Option Nat}{k0:K}{H:Heap}{ck:Nat}{Kn:V→Heap→Nat→Prop}(hX:(⟨prog,Γ,G0,r0,k0⟩:Cx).Ok){y:Lay}{r:Reg}{e:Ev}(hat:RegAt H y r)(hy:LayOk y ck)(hf:∀ l:Loc,ck < l.1→H l=none)
 (hk:kindOf e.kind=some .flight) (hp:AppPre r e .flight) (hKn:∀ ck',ck≤ck'→Kn (.tup []) (zx H y (w9 levelE r e)) ck') :
 zp ⟨prog,Γ,G0,r0,k0⟩ H ck 208 [.ptr y.box y.off,.agg (encEv e)] Kn:=by
 have hvl:=hp.vals
 have hnm:=hp.names
 have hr:=hp.reg.rl
 have hv0:0 < e.vals.length:=by rw[hvl];decide
 have hyo:=hy
 have hato:=hat
 rw[wJ hk] at hKn
 have hbx2:∀ r',zx H y r' y.box=some (.cells (y.pre++regCells y r')):=fun r'=>(wA hy r').box
 have hdy:∀ r' cs,cs=y.pre++regCells y { r' with day:=el e.vals 0 }→updH (zx H y r') y.box (.cells cs)=zx H y { r' with day:=el e.vals 0 }:=fun r' cs h=>vz h
 obtain⟨box,pre,n0,n1,n2,n3,n4,n5⟩:=y
 rcases hy.pre with q | ⟨u1,u2,q⟩
 ·have q:pre=[]:=q
  subst q
  show zp _ H ck 208 [.ptr box 0,.agg (encEv e)] Kn
  refine zp.less (zp.inline hX func208 rfl zK (D:=D208) (by kernel_rfl) (tab [(83,wX vV y9),(zm 3,zG),(wi 11,zG)]) (zk ⟨zY,za,za,trivial⟩) fun k1=>?_)
  simp only[f208]
  rw[zA (Nat.le_of_ble_eq_true rfl)]
  simp(maxSteps:=400000) only[go_sem,↓zj,encEv,zg,zh,hk,y9]
  refine .inl fun hX2=>?_
  refine ziD hX2 hato (hyo.mono (ck':=ck+1+1+1) (by omega)) (fun l hl=>hf l (by have:ck+1+1+1 < l.1:=hl;omega)) hr hvl hnm fun ck2 hck2=>?_
  have hb:=hbx2 (zu levelE r e .flight)
  simp only[regCells,List.cons_append,List.nil_append] at hb
  simp(maxSteps:=400000) only[go_sem,↓zj,encEv,zg,zh,hb]
  exact⟨by omega,_,z7 (hdy (zu levelE r e .flight) _ rfl),hKn _ (by omega)⟩
 ·have q:pre=[u1,u2]:=q
  subst q
  show zp _ H ck 208 [.ptr box 2,.agg (encEv e)] Kn
  refine zp.less (zp.inline hX func208 rfl zK (D:=D208) (by kernel_rfl) (tab [(83,wX vV y9),(zm 3,zG),(wi 11,zG)]) (zk ⟨zY,za,za,trivial⟩) fun k1=>?_)
  simp only[f208]
  rw[zA (Nat.le_of_ble_eq_true rfl)]
  simp(maxSteps:=400000) only[go_sem,↓zj,encEv,zg,zh,hk,y9]
  refine .inl fun hX2=>?_
  refine ziD hX2 hato (hyo.mono (ck':=ck+1+1+1) (by omega)) (fun l hl=>hf l (by have:ck+1+1+1 < l.1:=hl;omega)) hr hvl hnm fun ck2 hck2=>?_
  have hb:=hbx2 (zu levelE r e .flight)
  simp only[regCells,List.cons_append,List.nil_append] at hb
  simp(maxSteps:=400000) only[go_sem,↓zj,encEv,zg,zh,hb]
  exact⟨by omega,_,z7 (hdy (zu levelE r e .flight) _ rfl),hKn _ (by omega)⟩
theorem ap4_call {Γ:FuncId→Option Contract}{r0:Option Nat}{k0:K}{H:Heap}{ck:Nat}{Kn:V→Heap→Nat→Prop}(hX:(⟨prog,Γ,G0,r0,k0⟩:Cx).Ok){y:Lay}{r:Reg}{e:Ev}(hat:RegAt H y r)(hy:LayOk y ck)(hf:∀ l:Loc,ck < l.1→H l=none)
 (hk:kindOf e.kind=some .match_) (hp:AppPre r e .match_) (hKn:∀ ck',ck≤ck'→Kn (.tup []) (zx H y (w9 levelE r e)) ck') :
 zp ⟨prog,Γ,G0,r0,k0⟩ H ck 208 [.ptr y.box y.off,.agg (encEv e)] Kn:=by
 have hvl:=hp.vals
 have hnm:=hp.names
 have hr:=hp.reg.rl
 have hv0:0 < e.vals.length:=by rw[hvl];decide
 have hyo:=hy
 have hato:=hat
 rw[wJ hk] at hKn
 have hbx2:∀ r',zx H y r' y.box=some (.cells (y.pre++regCells y r')):=fun r'=>(wA hy r').box
 have hdy:∀ r' cs,cs=y.pre++regCells y { r' with day:=el e.vals 0 }→updH (zx H y r') y.box (.cells cs)=zx H y { r' with day:=el e.vals 0 }:=fun r' cs h=>vz h
 obtain⟨box,pre,n0,n1,n2,n3,n4,n5⟩:=y
 rcases hy.pre with q | ⟨u1,u2,q⟩
 ·have q:pre=[]:=q
  subst q
  show zp _ H ck 208 [.ptr box 0,.agg (encEv e)] Kn
  refine zp.less (zp.inline hX func208 rfl zK (D:=D208) (by kernel_rfl) (tab [(83,wX vV y9),(zm 3,zG),(wi 11,zG)]) (zk ⟨zY,za,za,trivial⟩) fun k1=>?_)
  simp only[f208]
  rw[zA (Nat.le_of_ble_eq_true rfl)]
  simp(maxSteps:=400000) only[go_sem,↓zj,encEv,zg,zh,hk,y9]
  refine .inl fun hX2=>?_
  refine ziC hX2 hato (hyo.mono (ck':=ck+1+1+1) (by omega)) (fun l hl=>hf l (by have:ck+1+1+1 < l.1:=hl;omega)) hr hvl hnm (we (i:=0) hp.known (by decide) (by decide)) fun ck2 hck2=>?_
  have hb:=hbx2 (zu levelE r e .match_)
  simp only[regCells,List.cons_append,List.nil_append] at hb
  simp(maxSteps:=400000) only[go_sem,↓zj,encEv,zg,zh,hb]
  exact⟨by omega,_,z7 (hdy (zu levelE r e .match_) _ rfl),hKn _ (by omega)⟩
 ·have q:pre=[u1,u2]:=q
  subst q
  show zp _ H ck 208 [.ptr box 2,.agg (encEv e)] Kn
  refine zp.less (zp.inline hX func208 rfl zK (D:=D208) (by kernel_rfl) (tab [(83,wX vV y9),(zm 3,zG),(wi 11,zG)]) (zk ⟨zY,za,za,trivial⟩) fun k1=>?_)
  simp only[f208]
  rw[zA (Nat.le_of_ble_eq_true rfl)]
  simp(maxSteps:=400000) only[go_sem,↓zj,encEv,zg,zh,hk,y9]
  refine .inl fun hX2=>?_
  refine ziC hX2 hato (hyo.mono (ck':=ck+1+1+1) (by omega)) (fun l hl=>hf l (by have:ck+1+1+1 < l.1:=hl;omega)) hr hvl hnm (we (i:=0) hp.known (by decide) (by decide)) fun ck2 hck2=>?_
  have hb:=hbx2 (zu levelE r e .match_)
  simp only[regCells,List.cons_append,List.nil_append] at hb
  simp(maxSteps:=400000) only[go_sem,↓zj,encEv,zg,zh,hb]
  exact⟨by omega,_,z7 (hdy (zu levelE r e .match_) _ rfl),hKn _ (by omega)⟩
theorem ap5_call {Γ:FuncId→Option Contract}{r0:Option Nat}{k0:K}{H:Heap}{ck:Nat}{Kn:V→Heap→Nat→Prop}(hX:(⟨prog,Γ,G0,r0,k0⟩:Cx).Ok){y:Lay}{r:Reg}{e:Ev}(hat:RegAt H y r)(hy:LayOk y ck)(hf:∀ l:Loc,ck < l.1→H l=none)
 (hk:kindOf e.kind=some .correct) (hp:AppPre r e .correct) (hKn:∀ ck',ck≤ck'→Kn (.tup []) (zx H y (w9 levelE r e)) ck') :
 zp ⟨prog,Γ,G0,r0,k0⟩ H ck 208 [.ptr y.box y.off,.agg (encEv e)] Kn:=by
 have hvl:=hp.vals
 have hnm:=hp.names
 have hr:=hp.reg.rl
 have hv0:0 < e.vals.length:=by rw[hvl];decide
 have hyo:=hy
 have hato:=hat
 rw[wJ hk] at hKn
 have hbx2:∀ r',zx H y r' y.box=some (.cells (y.pre++regCells y r')):=fun r'=>(wA hy r').box
 have hdy:∀ r' cs,cs=y.pre++regCells y { r' with day:=el e.vals 0 }→updH (zx H y r') y.box (.cells cs)=zx H y { r' with day:=el e.vals 0 }:=fun r' cs h=>vz h
 obtain⟨box,pre,n0,n1,n2,n3,n4,n5⟩:=y
 rcases hy.pre with q | ⟨u1,u2,q⟩
 ·have q:pre=[]:=q
  subst q
  show zp _ H ck 208 [.ptr box 0,.agg (encEv e)] Kn
  refine zp.less (zp.inline hX func208 rfl zK (D:=D208) (by kernel_rfl) (tab [(83,wX vV y9),(zm 3,zG),(wi 11,zG)]) (zk ⟨zY,za,za,trivial⟩) fun k1=>?_)
  simp only[f208]
  rw[zA (Nat.le_of_ble_eq_true rfl)]
  simp(maxSteps:=400000) only[go_sem,↓zj,encEv,zg,zh,hk,y9]
  refine .inl fun hX2=>?_
  refine ziB hX2 hato (hyo.mono (ck':=ck+1+1+1) (by omega)) (fun l hl=>hf l (by have:ck+1+1+1 < l.1:=hl;omega)) hr hvl hnm (we (i:=0) hp.known (by decide) (by decide)) fun ck2 hck2=>?_
  have hb:=hbx2 (zu levelE r e .correct)
  simp only[regCells,List.cons_append,List.nil_append] at hb
  simp(maxSteps:=400000) only[go_sem,↓zj,encEv,zg,zh,hb]
  exact⟨by omega,_,z7 (hdy (zu levelE r e .correct) _ rfl),hKn _ (by omega)⟩
 ·have q:pre=[u1,u2]:=q
  subst q
  show zp _ H ck 208 [.ptr box 2,.agg (encEv e)] Kn
  refine zp.less (zp.inline hX func208 rfl zK (D:=D208) (by kernel_rfl) (tab [(83,wX vV y9),(zm 3,zG),(wi 11,zG)]) (zk ⟨zY,za,za,trivial⟩) fun k1=>?_)
  simp only[f208]
  rw[zA (Nat.le_of_ble_eq_true rfl)]
  simp(maxSteps:=400000) only[go_sem,↓zj,encEv,zg,zh,hk,y9]
  refine .inl fun hX2=>?_
  refine ziB hX2 hato (hyo.mono (ck':=ck+1+1+1) (by omega)) (fun l hl=>hf l (by have:ck+1+1+1 < l.1:=hl;omega)) hr hvl hnm (we (i:=0) hp.known (by decide) (by decide)) fun ck2 hck2=>?_
  have hb:=hbx2 (zu levelE r e .correct)
  simp only[regCells,List.cons_append,List.nil_append] at hb
  simp(maxSteps:=400000) only[go_sem,↓zj,encEv,zg,zh,hb]
  exact⟨by omega,_,z7 (hdy (zu levelE r e .correct) _ rfl),hKn _ (by omega)⟩
theorem ap6_call {Γ:FuncId→Option Contract}{r0:Option Nat}{k0:K}{H:Heap}{ck:Nat}{Kn:V→Heap→Nat→Prop}(hX:(⟨prog,Γ,G0,r0,k0⟩:Cx).Ok){y:Lay}{r:Reg}{e:Ev}(hat:RegAt H y r)(hy:LayOk y ck)(hf:∀ l:Loc,ck < l.1→H l=none)
 (hk:kindOf e.kind=some .publish) (hp:AppPre r e .publish) (hKn:∀ ck',ck≤ck'→Kn (.tup []) (zx H y (w9 levelE r e)) ck') :
 zp ⟨prog,Γ,G0,r0,k0⟩ H ck 208 [.ptr y.box y.off,.agg (encEv e)] Kn:=by
 have hvl:=hp.vals
 have hnm:=hp.names
 have hr:=hp.reg.rl
 have hv0:0 < e.vals.length:=by rw[hvl];decide
 have hyo:=hy
 have hato:=hat
 rw[wJ hk] at hKn
 have hbx2:∀ r',zx H y r' y.box=some (.cells (y.pre++regCells y r')):=fun r'=>(wA hy r').box
 have hdy:∀ r' cs,cs=y.pre++regCells y { r' with day:=el e.vals 0 }→updH (zx H y r') y.box (.cells cs)=zx H y { r' with day:=el e.vals 0 }:=fun r' cs h=>vz h
 obtain⟨box,pre,n0,n1,n2,n3,n4,n5⟩:=y
 rcases hy.pre with q | ⟨u1,u2,q⟩
 ·have q:pre=[]:=q
  subst q
  show zp _ H ck 208 [.ptr box 0,.agg (encEv e)] Kn
  refine zp.less (zp.inline hX func208 rfl zK (D:=D208) (by kernel_rfl) (tab [(83,wX vV y9),(zm 3,zG),(wi 11,zG)]) (zk ⟨zY,za,za,trivial⟩) fun k1=>?_)
  simp only[f208]
  rw[zA (Nat.le_of_ble_eq_true rfl)]
  simp(maxSteps:=400000) only[go_sem,↓zj,encEv,zg,zh,hk,y9]
  refine .inl fun hX2=>?_
  refine ziA hX2 hato (hyo.mono (ck':=ck+1+1+1) (by omega)) (fun l hl=>hf l (by have:ck+1+1+1 < l.1:=hl;omega)) hr hvl hnm hp.reg.chain fun ck2 hck2=>?_
  have hb:=hbx2 (zu levelE r e .publish)
  simp only[regCells,List.cons_append,List.nil_append] at hb
  simp(maxSteps:=400000) only[go_sem,↓zj,encEv,zg,zh,hb]
  exact⟨by omega,_,z7 (hdy (zu levelE r e .publish) _ rfl),hKn _ (by omega)⟩
 ·have q:pre=[u1,u2]:=q
  subst q
  show zp _ H ck 208 [.ptr box 2,.agg (encEv e)] Kn
  refine zp.less (zp.inline hX func208 rfl zK (D:=D208) (by kernel_rfl) (tab [(83,wX vV y9),(zm 3,zG),(wi 11,zG)]) (zk ⟨zY,za,za,trivial⟩) fun k1=>?_)
  simp only[f208]
  rw[zA (Nat.le_of_ble_eq_true rfl)]
  simp(maxSteps:=400000) only[go_sem,↓zj,encEv,zg,zh,hk,y9]
  refine .inl fun hX2=>?_
  refine ziA hX2 hato (hyo.mono (ck':=ck+1+1+1) (by omega)) (fun l hl=>hf l (by have:ck+1+1+1 < l.1:=hl;omega)) hr hvl hnm hp.reg.chain fun ck2 hck2=>?_
  have hb:=hbx2 (zu levelE r e .publish)
  simp only[regCells,List.cons_append,List.nil_append] at hb
  simp(maxSteps:=400000) only[go_sem,↓zj,encEv,zg,zh,hb]
  exact⟨by omega,_,z7 (hdy (zu levelE r e .publish) _ rfl),hKn _ (by omega)⟩
theorem ap7_call {Γ:FuncId→Option Contract}{r0:Option Nat}{k0:K}{H:Heap}{ck:Nat}{Kn:V→Heap→Nat→Prop}(hX:(⟨prog,Γ,G0,r0,k0⟩:Cx).Ok){y:Lay}{r:Reg}{e:Ev}(hat:RegAt H y r)(hy:LayOk y ck)(hf:∀ l:Loc,ck < l.1→H l=none)
 (hk:kindOf e.kind=some .offer) (hp:AppPre r e .offer) (hKn:∀ ck',ck≤ck'→Kn (.tup []) (zx H y (w9 levelE r e)) ck') :
 zp ⟨prog,Γ,G0,r0,k0⟩ H ck 208 [.ptr y.box y.off,.agg (encEv e)] Kn:=by
 have hvl:=hp.vals
 have hnm:=hp.names
 have hr:=hp.reg.rl
 have hv0:0 < e.vals.length:=by rw[hvl];decide
 have hyo:=hy
 have hato:=hat
 rw[wJ hk] at hKn
 have hbx2:∀ r',zx H y r' y.box=some (.cells (y.pre++regCells y r')):=fun r'=>(wA hy r').box
 have hdy:∀ r' cs,cs=y.pre++regCells y { r' with day:=el e.vals 0 }→updH (zx H y r') y.box (.cells cs)=zx H y { r' with day:=el e.vals 0 }:=fun r' cs h=>vz h
 obtain⟨box,pre,n0,n1,n2,n3,n4,n5⟩:=y
 rcases hy.pre with q | ⟨u1,u2,q⟩
 ·have q:pre=[]:=q
  subst q
  show zp _ H ck 208 [.ptr box 0,.agg (encEv e)] Kn
  refine zp.less (zp.inline hX func208 rfl zK (D:=D208) (by kernel_rfl) (tab [(83,wX vV y9),(zm 3,zG),(wi 11,zG)]) (zk ⟨zY,za,za,trivial⟩) fun k1=>?_)
  simp only[f208]
  rw[zA (Nat.le_of_ble_eq_true rfl)]
  simp(maxSteps:=400000) only[go_sem,↓zj,encEv,zg,zh,hk,y9]
  refine .inl fun hX2=>?_
  refine ziz hX2 hato (hyo.mono (ck':=ck+1+1+1) (by omega)) (fun l hl=>hf l (by have:ck+1+1+1 < l.1:=hl;omega)) hr hvl hnm fun ck2 hck2=>?_
  have hb:=hbx2 (zu levelE r e .offer)
  simp only[regCells,List.cons_append,List.nil_append] at hb
  simp(maxSteps:=400000) only[go_sem,↓zj,encEv,zg,zh,hb]
  exact⟨by omega,_,z7 (hdy (zu levelE r e .offer) _ rfl),hKn _ (by omega)⟩
 ·have q:pre=[u1,u2]:=q
  subst q
  show zp _ H ck 208 [.ptr box 2,.agg (encEv e)] Kn
  refine zp.less (zp.inline hX func208 rfl zK (D:=D208) (by kernel_rfl) (tab [(83,wX vV y9),(zm 3,zG),(wi 11,zG)]) (zk ⟨zY,za,za,trivial⟩) fun k1=>?_)
  simp only[f208]
  rw[zA (Nat.le_of_ble_eq_true rfl)]
  simp(maxSteps:=400000) only[go_sem,↓zj,encEv,zg,zh,hk,y9]
  refine .inl fun hX2=>?_
  refine ziz hX2 hato (hyo.mono (ck':=ck+1+1+1) (by omega)) (fun l hl=>hf l (by have:ck+1+1+1 < l.1:=hl;omega)) hr hvl hnm fun ck2 hck2=>?_
  have hb:=hbx2 (zu levelE r e .offer)
  simp only[regCells,List.cons_append,List.nil_append] at hb
  simp(maxSteps:=400000) only[go_sem,↓zj,encEv,zg,zh,hb]
  exact⟨by omega,_,z7 (hdy (zu levelE r e .offer) _ rfl),hKn _ (by omega)⟩
theorem ap8_call {Γ:FuncId→Option Contract}{r0:Option Nat}{k0:K}{H:Heap}{ck:Nat}{Kn:V→Heap→Nat→Prop}(hX:(⟨prog,Γ,G0,r0,k0⟩:Cx).Ok){y:Lay}{r:Reg}{e:Ev}(hat:RegAt H y r)(hy:LayOk y ck)(hf:∀ l:Loc,ck < l.1→H l=none)
 (hk:kindOf e.kind=some .fund) (hp:AppPre r e .fund) (hKn:∀ ck',ck≤ck'→Kn (.tup []) (zx H y (w9 levelE r e)) ck') :
 zp ⟨prog,Γ,G0,r0,k0⟩ H ck 208 [.ptr y.box y.off,.agg (encEv e)] Kn:=by
 have hvl:=hp.vals
 have hnm:=hp.names
 have hr:=hp.reg.rl
 have hv0:0 < e.vals.length:=by rw[hvl];decide
 have hyo:=hy
 have hato:=hat
 rw[wJ hk] at hKn
 have hbx2:∀ r',zx H y r' y.box=some (.cells (y.pre++regCells y r')):=fun r'=>(wA hy r').box
 have hdy:∀ r' cs,cs=y.pre++regCells y { r' with day:=el e.vals 0 }→updH (zx H y r') y.box (.cells cs)=zx H y { r' with day:=el e.vals 0 }:=fun r' cs h=>vz h
 obtain⟨box,pre,n0,n1,n2,n3,n4,n5⟩:=y
 rcases hy.pre with q | ⟨u1,u2,q⟩
 ·have q:pre=[]:=q
  subst q
  show zp _ H ck 208 [.ptr box 0,.agg (encEv e)] Kn
  refine zp.less (zp.inline hX func208 rfl zK (D:=D208) (by kernel_rfl) (tab [(83,wX vV y9),(zm 3,zG),(wi 11,zG)]) (zk ⟨zY,za,za,trivial⟩) fun k1=>?_)
  simp only[f208]
  rw[zA (Nat.le_of_ble_eq_true rfl)]
  simp(maxSteps:=400000) only[go_sem,↓zj,encEv,zg,zh,hk,y9]
  refine .inl fun hX2=>?_
  refine ziy hX2 hato (hyo.mono (ck':=ck+1+1+1) (by omega)) (fun l hl=>hf l (by have:ck+1+1+1 < l.1:=hl;omega)) hr hvl (hp.val (i:=1) (by decide)) hp.reg.fund fun ck2 hck2=>?_
  have hb:=hbx2 (zu levelE r e .fund)
  simp only[regCells,List.cons_append,List.nil_append] at hb
  simp(maxSteps:=400000) only[go_sem,↓zj,encEv,zg,zh,hb]
  exact⟨by omega,_,z7 (hdy (zu levelE r e .fund) _ rfl),hKn _ (by omega)⟩
 ·have q:pre=[u1,u2]:=q
  subst q
  show zp _ H ck 208 [.ptr box 2,.agg (encEv e)] Kn
  refine zp.less (zp.inline hX func208 rfl zK (D:=D208) (by kernel_rfl) (tab [(83,wX vV y9),(zm 3,zG),(wi 11,zG)]) (zk ⟨zY,za,za,trivial⟩) fun k1=>?_)
  simp only[f208]
  rw[zA (Nat.le_of_ble_eq_true rfl)]
  simp(maxSteps:=400000) only[go_sem,↓zj,encEv,zg,zh,hk,y9]
  refine .inl fun hX2=>?_
  refine ziy hX2 hato (hyo.mono (ck':=ck+1+1+1) (by omega)) (fun l hl=>hf l (by have:ck+1+1+1 < l.1:=hl;omega)) hr hvl (hp.val (i:=1) (by decide)) hp.reg.fund fun ck2 hck2=>?_
  have hb:=hbx2 (zu levelE r e .fund)
  simp only[regCells,List.cons_append,List.nil_append] at hb
  simp(maxSteps:=400000) only[go_sem,↓zj,encEv,zg,zh,hb]
  exact⟨by omega,_,z7 (hdy (zu levelE r e .fund) _ rfl),hKn _ (by omega)⟩
theorem ap9_call {Γ:FuncId→Option Contract}{r0:Option Nat}{k0:K}{H:Heap}{ck:Nat}{Kn:V→Heap→Nat→Prop}(hX:(⟨prog,Γ,G0,r0,k0⟩:Cx).Ok){y:Lay}{r:Reg}{e:Ev}(hat:RegAt H y r)(hy:LayOk y ck)(hf:∀ l:Loc,ck < l.1→H l=none)
 (hk:kindOf e.kind=some .pay) (hp:AppPre r e .pay) (hKn:∀ ck',ck≤ck'→Kn (.tup []) (zx H y (w9 levelE r e)) ck') :
 zp ⟨prog,Γ,G0,r0,k0⟩ H ck 208 [.ptr y.box y.off,.agg (encEv e)] Kn:=by
 have hvl:=hp.vals
 have hnm:=hp.names
 have hr:=hp.reg.rl
 have hv0:0 < e.vals.length:=by rw[hvl];decide
 have hyo:=hy
 have hato:=hat
 rw[wJ hk] at hKn
 have hbx2:∀ r',zx H y r' y.box=some (.cells (y.pre++regCells y r')):=fun r'=>(wA hy r').box
 have hdy:∀ r' cs,cs=y.pre++regCells y { r' with day:=el e.vals 0 }→updH (zx H y r') y.box (.cells cs)=zx H y { r' with day:=el e.vals 0 }:=fun r' cs h=>vz h
 obtain⟨box,pre,n0,n1,n2,n3,n4,n5⟩:=y
 rcases hy.pre with q | ⟨u1,u2,q⟩
 ·have q:pre=[]:=q
  subst q
  show zp _ H ck 208 [.ptr box 0,.agg (encEv e)] Kn
  refine zp.less (zp.inline hX func208 rfl zK (D:=D208) (by kernel_rfl) (tab [(83,wX vV y9),(zm 3,zG),(wi 11,zG)]) (zk ⟨zY,za,za,trivial⟩) fun k1=>?_)
  simp only[f208]
  rw[zA (Nat.le_of_ble_eq_true rfl)]
  simp(maxSteps:=400000) only[go_sem,↓zj,encEv,zg,zh,hk,y9]
  refine .inl fun hX2=>?_
  refine zix hX2 hato (hyo.mono (ck':=ck+1+1+1) (by omega)) (fun l hl=>hf l (by have:ck+1+1+1 < l.1:=hl;omega)) hr hvl hnm (we (i:=0) hp.known (by decide) (by decide)) hp.reg.fund hp.pay fun ck2 hck2=>?_
  have hb:=hbx2 (zu levelE r e .pay)
  simp only[regCells,List.cons_append,List.nil_append] at hb
  simp(maxSteps:=400000) only[go_sem,↓zj,encEv,zg,zh,hb]
  exact⟨by omega,_,z7 (hdy (zu levelE r e .pay) _ rfl),hKn _ (by omega)⟩
 ·have q:pre=[u1,u2]:=q
  subst q
  show zp _ H ck 208 [.ptr box 2,.agg (encEv e)] Kn
  refine zp.less (zp.inline hX func208 rfl zK (D:=D208) (by kernel_rfl) (tab [(83,wX vV y9),(zm 3,zG),(wi 11,zG)]) (zk ⟨zY,za,za,trivial⟩) fun k1=>?_)
  simp only[f208]
  rw[zA (Nat.le_of_ble_eq_true rfl)]
  simp(maxSteps:=400000) only[go_sem,↓zj,encEv,zg,zh,hk,y9]
  refine .inl fun hX2=>?_
  refine zix hX2 hato (hyo.mono (ck':=ck+1+1+1) (by omega)) (fun l hl=>hf l (by have:ck+1+1+1 < l.1:=hl;omega)) hr hvl hnm (we (i:=0) hp.known (by decide) (by decide)) hp.reg.fund hp.pay fun ck2 hck2=>?_
  have hb:=hbx2 (zu levelE r e .pay)
  simp only[regCells,List.cons_append,List.nil_append] at hb
  simp(maxSteps:=400000) only[go_sem,↓zj,encEv,zg,zh,hb]
  exact⟨by omega,_,z7 (hdy (zu levelE r e .pay) _ rfl),hKn _ (by omega)⟩
theorem znw {Γ:FuncId→Option Contract}{r0:Option Nat}{k0:K}{H:Heap}{ck:Nat}{Kn:V→Heap→Nat→Prop}(hX:(⟨prog,Γ,G0,r0,k0⟩:Cx).Ok){y:Lay}{r:Reg}{e:Ev}(hat:RegAt H y r)(hy:LayOk y ck)(hf:∀ l:Loc,ck < l.1→H l=none)
 (hk:kindOf e.kind=some .complain) (hp:AppPre r e .complain) (hKn:∀ ck',ck≤ck'→Kn (.tup []) (zx H y (w9 levelE r e)) ck') :
 zp ⟨prog,Γ,G0,r0,k0⟩ H ck 208 [.ptr y.box y.off,.agg (encEv e)] Kn:=by
 have hvl:=hp.vals
 have hnm:=hp.names
 have hr:=hp.reg.rl
 have hv0:0 < e.vals.length:=by rw[hvl];decide
 have hyo:=hy
 have hato:=hat
 rw[wJ hk] at hKn
 have hbx2:∀ r',zx H y r' y.box=some (.cells (y.pre++regCells y r')):=fun r'=>(wA hy r').box
 have hdy:∀ r' cs,cs=y.pre++regCells y { r' with day:=el e.vals 0 }→updH (zx H y r') y.box (.cells cs)=zx H y { r' with day:=el e.vals 0 }:=fun r' cs h=>vz h
 obtain⟨box,pre,n0,n1,n2,n3,n4,n5⟩:=y
 rcases hy.pre with q | ⟨u1,u2,q⟩
 ·have q:pre=[]:=q
  subst q
  show zp _ H ck 208 [.ptr box 0,.agg (encEv e)] Kn
  refine zp.less (zp.inline hX func208 rfl zK (D:=D208) (by kernel_rfl) (tab [(83,wX vV y9),(zm 3,zG),(wi 11,zG)]) (zk ⟨zY,za,za,trivial⟩) fun k1=>?_)
  simp only[f208]
  rw[zA (Nat.le_of_ble_eq_true rfl)]
  simp(maxSteps:=400000) only[go_sem,↓zj,encEv,zg,zh,hk,y9]
  refine .inl fun hX2=>?_
  refine zfJ hX2 hato (hyo.mono (ck':=ck+1+1+1) (by omega)) (fun l hl=>hf l (by have:ck+1+1+1 < l.1:=hl;omega)) hr hvl hnm fun ck2 hck2=>?_
  have hb:=hbx2 (zu levelE r e .complain)
  simp only[regCells,List.cons_append,List.nil_append] at hb
  simp(maxSteps:=400000) only[go_sem,↓zj,encEv,zg,zh,hb]
  exact⟨by omega,_,z7 (hdy (zu levelE r e .complain) _ rfl),hKn _ (by omega)⟩
 ·have q:pre=[u1,u2]:=q
  subst q
  show zp _ H ck 208 [.ptr box 2,.agg (encEv e)] Kn
  refine zp.less (zp.inline hX func208 rfl zK (D:=D208) (by kernel_rfl) (tab [(83,wX vV y9),(zm 3,zG),(wi 11,zG)]) (zk ⟨zY,za,za,trivial⟩) fun k1=>?_)
  simp only[f208]
  rw[zA (Nat.le_of_ble_eq_true rfl)]
  simp(maxSteps:=400000) only[go_sem,↓zj,encEv,zg,zh,hk,y9]
  refine .inl fun hX2=>?_
  refine zfJ hX2 hato (hyo.mono (ck':=ck+1+1+1) (by omega)) (fun l hl=>hf l (by have:ck+1+1+1 < l.1:=hl;omega)) hr hvl hnm fun ck2 hck2=>?_
  have hb:=hbx2 (zu levelE r e .complain)
  simp only[regCells,List.cons_append,List.nil_append] at hb
  simp(maxSteps:=400000) only[go_sem,↓zj,encEv,zg,zh,hb]
  exact⟨by omega,_,z7 (hdy (zu levelE r e .complain) _ rfl),hKn _ (by omega)⟩
theorem znv {Γ:FuncId→Option Contract}{r0:Option Nat}{k0:K}{H:Heap}{ck:Nat}{Kn:V→Heap→Nat→Prop}(hX:(⟨prog,Γ,G0,r0,k0⟩:Cx).Ok){y:Lay}{r:Reg}{e:Ev}(hat:RegAt H y r)(hy:LayOk y ck)(hf:∀ l:Loc,ck < l.1→H l=none)
 (hk:kindOf e.kind=some .answer) (hp:AppPre r e .answer) (hKn:∀ ck',ck≤ck'→Kn (.tup []) (zx H y (w9 levelE r e)) ck') :
 zp ⟨prog,Γ,G0,r0,k0⟩ H ck 208 [.ptr y.box y.off,.agg (encEv e)] Kn:=by
 have hvl:=hp.vals
 have hnm:=hp.names
 have hr:=hp.reg.rl
 have hv0:0 < e.vals.length:=by rw[hvl];decide
 have hyo:=hy
 have hato:=hat
 rw[wJ hk] at hKn
 have hbx2:∀ r',zx H y r' y.box=some (.cells (y.pre++regCells y r')):=fun r'=>(wA hy r').box
 have hdy:∀ r' cs,cs=y.pre++regCells y { r' with day:=el e.vals 0 }→updH (zx H y r') y.box (.cells cs)=zx H y { r' with day:=el e.vals 0 }:=fun r' cs h=>vz h
 obtain⟨box,pre,n0,n1,n2,n3,n4,n5⟩:=y
 rcases hy.pre with q | ⟨u1,u2,q⟩
 ·have q:pre=[]:=q
  subst q
  show zp _ H ck 208 [.ptr box 0,.agg (encEv e)] Kn
  refine zp.less (zp.inline hX func208 rfl zK (D:=D208) (by kernel_rfl) (tab [(83,wX vV y9),(zm 3,zG),(wi 11,zG)]) (zk ⟨zY,za,za,trivial⟩) fun k1=>?_)
  simp only[f208]
  rw[zA (Nat.le_of_ble_eq_true rfl)]
  simp(maxSteps:=400000) only[go_sem,↓zj,encEv,zg,zh,hk,y9]
  refine .inl fun hX2=>?_
  refine zfI hX2 hato (hyo.mono (ck':=ck+1+1+1) (by omega)) (fun l hl=>hf l (by have:ck+1+1+1 < l.1:=hl;omega)) hr hvl hnm (we (i:=0) hp.known (by decide) (by decide)) fun ck2 hck2=>?_
  have hb:=hbx2 (zu levelE r e .answer)
  simp only[regCells,List.cons_append,List.nil_append] at hb
  simp(maxSteps:=400000) only[go_sem,↓zj,encEv,zg,zh,hb]
  exact⟨by omega,_,z7 (hdy (zu levelE r e .answer) _ rfl),hKn _ (by omega)⟩
 ·have q:pre=[u1,u2]:=q
  subst q
  show zp _ H ck 208 [.ptr box 2,.agg (encEv e)] Kn
  refine zp.less (zp.inline hX func208 rfl zK (D:=D208) (by kernel_rfl) (tab [(83,wX vV y9),(zm 3,zG),(wi 11,zG)]) (zk ⟨zY,za,za,trivial⟩) fun k1=>?_)
  simp only[f208]
  rw[zA (Nat.le_of_ble_eq_true rfl)]
  simp(maxSteps:=400000) only[go_sem,↓zj,encEv,zg,zh,hk,y9]
  refine .inl fun hX2=>?_
  refine zfI hX2 hato (hyo.mono (ck':=ck+1+1+1) (by omega)) (fun l hl=>hf l (by have:ck+1+1+1 < l.1:=hl;omega)) hr hvl hnm (we (i:=0) hp.known (by decide) (by decide)) fun ck2 hck2=>?_
  have hb:=hbx2 (zu levelE r e .answer)
  simp only[regCells,List.cons_append,List.nil_append] at hb
  simp(maxSteps:=400000) only[go_sem,↓zj,encEv,zg,zh,hb]
  exact⟨by omega,_,z7 (hdy (zu levelE r e .answer) _ rfl),hKn _ (by omega)⟩
theorem znu {Γ:FuncId→Option Contract}{r0:Option Nat}{k0:K}{H:Heap}{ck:Nat}{Kn:V→Heap→Nat→Prop}(hX:(⟨prog,Γ,G0,r0,k0⟩:Cx).Ok){y:Lay}{r:Reg}{e:Ev}(hat:RegAt H y r)(hy:LayOk y ck)(hf:∀ l:Loc,ck < l.1→H l=none)
 (hk:kindOf e.kind=some .dismiss) (hp:AppPre r e .dismiss) (hKn:∀ ck',ck≤ck'→Kn (.tup []) (zx H y (w9 levelE r e)) ck') :
 zp ⟨prog,Γ,G0,r0,k0⟩ H ck 208 [.ptr y.box y.off,.agg (encEv e)] Kn:=by
 have hvl:=hp.vals
 have hnm:=hp.names
 have hr:=hp.reg.rl
 have hv0:0 < e.vals.length:=by rw[hvl];decide
 have hyo:=hy
 have hato:=hat
 rw[wJ hk] at hKn
 have hbx2:∀ r',zx H y r' y.box=some (.cells (y.pre++regCells y r')):=fun r'=>(wA hy r').box
 have hdy:∀ r' cs,cs=y.pre++regCells y { r' with day:=el e.vals 0 }→updH (zx H y r') y.box (.cells cs)=zx H y { r' with day:=el e.vals 0 }:=fun r' cs h=>vz h
 obtain⟨box,pre,n0,n1,n2,n3,n4,n5⟩:=y
 rcases hy.pre with q | ⟨u1,u2,q⟩
 ·have q:pre=[]:=q
  subst q
  show zp _ H ck 208 [.ptr box 0,.agg (encEv e)] Kn
  refine zp.less (zp.inline hX func208 rfl zK (D:=D208) (by kernel_rfl) (tab [(83,wX vV y9),(zm 3,zG),(wi 11,zG)]) (zk ⟨zY,za,za,trivial⟩) fun k1=>?_)
  simp only[f208]
  rw[zA (Nat.le_of_ble_eq_true rfl)]
  simp(maxSteps:=400000) only[go_sem,↓zj,encEv,zg,zh,hk,y9]
  refine .inl fun hX2=>?_
  refine zfH hX2 hato (hyo.mono (ck':=ck+1+1+1) (by omega)) (fun l hl=>hf l (by have:ck+1+1+1 < l.1:=hl;omega)) hr hvl hnm (we (i:=0) hp.known (by decide) (by decide)) fun ck2 hck2=>?_
  have hb:=hbx2 (zu levelE r e .dismiss)
  simp only[regCells,List.cons_append,List.nil_append] at hb
  simp(maxSteps:=400000) only[go_sem,↓zj,encEv,zg,zh,hb]
  exact⟨by omega,_,z7 (hdy (zu levelE r e .dismiss) _ rfl),hKn _ (by omega)⟩
 ·have q:pre=[u1,u2]:=q
  subst q
  show zp _ H ck 208 [.ptr box 2,.agg (encEv e)] Kn
  refine zp.less (zp.inline hX func208 rfl zK (D:=D208) (by kernel_rfl) (tab [(83,wX vV y9),(zm 3,zG),(wi 11,zG)]) (zk ⟨zY,za,za,trivial⟩) fun k1=>?_)
  simp only[f208]
  rw[zA (Nat.le_of_ble_eq_true rfl)]
  simp(maxSteps:=400000) only[go_sem,↓zj,encEv,zg,zh,hk,y9]
  refine .inl fun hX2=>?_
  refine zfH hX2 hato (hyo.mono (ck':=ck+1+1+1) (by omega)) (fun l hl=>hf l (by have:ck+1+1+1 < l.1:=hl;omega)) hr hvl hnm (we (i:=0) hp.known (by decide) (by decide)) fun ck2 hck2=>?_
  have hb:=hbx2 (zu levelE r e .dismiss)
  simp only[regCells,List.cons_append,List.nil_append] at hb
  simp(maxSteps:=400000) only[go_sem,↓zj,encEv,zg,zh,hb]
  exact⟨by omega,_,z7 (hdy (zu levelE r e .dismiss) _ rfl),hKn _ (by omega)⟩
theorem zde {Γ:FuncId→Option Contract}{r0:Option Nat}{k0:K}{H:Heap}{ck:Nat}{Kn:V→Heap→Nat→Prop}(hX:(⟨prog,Γ,G0,r0,k0⟩:Cx).Ok){y:Lay}{r:Reg}{e:Ev}{k:Kd}(hat:RegAt H y r)(hy:LayOk y ck)(hf:∀ l:Loc,ck < l.1→H l=none)
 (hk:kindOf e.kind=some k) (hu:k≠.undo) (hp:AppPre r e k) (hKn:∀ ck',ck≤ck'→Kn (.tup []) (zx H y (w9 levelE r e)) ck') :
 zp ⟨prog,Γ,G0,r0,k0⟩ H ck 208 [.ptr y.box y.off,.agg (encEv e)] Kn:=by
 cases k
 ·exact ap1_call hX hat hy hf hk hp hKn
 ·exact ap2_call hX hat hy hf hk hp hKn
 ·exact ap3_call hX hat hy hf hk hp hKn
 ·exact ap4_call hX hat hy hf hk hp hKn
 ·exact ap5_call hX hat hy hf hk hp hKn
 ·exact ap6_call hX hat hy hf hk hp hKn
 ·exact ap7_call hX hat hy hf hk hp hKn
 ·exact ap8_call hX hat hy hf hk hp hKn
 ·exact ap9_call hX hat hy hf hk hp hKn
 ·exact znw hX hat hy hf hk hp hKn
 ·exact znv hX hat hy hf hk hp hKn
 ·exact znu hX hat hy hf hk hp hKn
 ·exact absurd rfl hu
end Go.Fly.Tryz
end
