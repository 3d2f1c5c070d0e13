/- Part of a proof. No conditions. -/
import Derived.Test.YtkfbgillhhhdgaaGreatDoorSYOEn
import Derived.Test.YtkfbgillhhhdgaaGreatDoorAN
import Derived.Test.YtkfbgillhhhdgaaGreatDoorSYOOB
set_option linter.unusedSimpArgs false
set_option linter.unusedVariables false
section
set_option maxRecDepth 100000
set_option maxHeartbeats 1000000
namespace Go.Fly.Tryz
open Go Off Go.Proofs.Tryz
theorem ziF {Γ:FuncId→Option Contract}{r0:Option Nat}{k0:K}{H:Heap}{ck:Nat}{Kn:V→Heap→Nat→Prop}(hX:(⟨prog,Γ,G0,r0,k0⟩:Cx).Ok){y:Lay}{r:Reg}{e:Ev}(hat:RegAt H y r)(hy:LayOk y ck)(hf:∀ l:Loc,ck < l.1→H l=none)
 (hr:RL r) (hv:e.vals.length=2) (hn:e.names.length=1) (hKn:∀ ck',ck≤ck'→Kn (.tup []) (zx H y (zu levelE r e .type)) ck') :
 zp ⟨prog,Γ,G0,r0,k0⟩ H ck 145 [.ptr y.box y.off,.agg (encEv e)] Kn:=by
 obtain⟨box,pre,n0,n1,n2,n3,n4,n5⟩:=y
 have h0:=hy.hi box (by simp[Lay.locs])
 have f1:=fun d=>hf (ck+1,d) (by show ck < ck+1;omega)
 have f2:=fun d=>hf (ck+1+1,d) (by show ck < ck+1+1;omega)
 have f3:=fun d=>hf (ck+1+1+1,d) (by show ck < ck+1+1+1;omega)
 have e1:=fun d=>yM (l:=box) (ck:=ck) (c:=ck+1+1+1) (d:=d) h0 (by omega)
 have e1g:=fun d=>yL (l:=box) (ck:=ck) (c:=ck+1+1+1) (d:=d) h0 (by omega)
 obtain⟨r1,r2,r3,r4,r5,r6⟩:=id hr
 have nd:=hy.nd
 simp only[Lay.locs,List.nodup_cons,List.mem_cons,List.not_mem_nil,or_false,not_or] at nd
 have a1:¬ box=n0:=by obtain⟨⟨b0,b1,b2,b3,b4,b5⟩,-⟩:=nd;exact b0
 have a1':¬ n0=box:=fun q=>a1 q.symm
 have h1:=hy.hi n0 (by simp[Lay.locs])
 have e2:=fun d=>yM (l:=n0) (ck:=ck) (c:=ck+1+1+1) (d:=d) h1 (by omega)
 have e2g:=fun d=>yL (l:=n0) (ck:=ck) (c:=ck+1+1+1) (d:=d) h1 (by omega)
 have hty:H n0=some (.arr r.types.length 3 fun i=>wg (el r.types i)):=hat.types
 rcases hy.pre with q | ⟨u1,u2,q⟩
 ·have q:pre=[]:=q
  subst q
  have hbx:H box=some (.cells [.int .i64 r.day,.msl n0 0 r.types.length,.msl n1 0 r.houses.length,.msl n2 0 r.flights.length,.msl n3 0 r.maps.length,.msl n4 0 r.offers.length,.msl n5 0 r.complaints.length,.int .i64 r.fund]):=hat.box
  show zp _ H ck 145 [.ptr box 0,.agg (encEv e)] Kn
  refine zp.less (zp.inline hX func145 rfl zK (D:=D145) (by kernel_rfl) (tab [(zm 3,zG)]) (zk ⟨za,trivial⟩) fun k1=>?_)
  simp only[f145]
  rw[zA (Nat.le_of_ble_eq_true rfl)]
  simp(maxSteps:=400000) only[go_sem,↓zj,encEv,zg,zh,hbx,f1,f2,f3,e1,e1g,hty,e2,e2g,a1,a1']
  exact⟨by omega,by omega,⟨by omega,by omega,wG rfl (jK ⟨el e.names 0,el e.vals 1,1000⟩)⟩,_,kK (r':=zu levelE r e .type) hy hat hf (by repeat (first | exact Chg.refl _ _ _ | refine Chg.mem ?_ (List.mem_cons_self ..) | refine Chg.mem ?_ (List.mem_cons_of_mem _ (List.mem_cons_self ..)) | refine Chg.new ?_ (by show ck < _;omega))) ((zd _ _ _).trans (congrArg (fun cs=>some (AObj.cells cs)) (by simp only[regCells,zu,List.length_append];rfl)))
   ⟨_,(zc a1').trans (zd _ _ _),wK (f:=wg) (l:=r.types) (x:=⟨el e.names 0,el e.vals 1,1000⟩) rfl fun j hj=>vn rfl rfl hj⟩ rfl rfl rfl rfl rfl,hKn _ (by omega)⟩
 ·have q:pre=[u1,u2]:=q
  subst q
  have hbx:H box=some (.cells [u1,u2,.int .i64 r.day,.msl n0 0 r.types.length,.msl n1 0 r.houses.length,.msl n2 0 r.flights.length,.msl n3 0 r.maps.length,.msl n4 0 r.offers.length,.msl n5 0 r.complaints.length,.int .i64 r.fund]):=hat.box
  show zp _ H ck 145 [.ptr box 2,.agg (encEv e)] Kn
  refine zp.less (zp.inline hX func145 rfl zK (D:=D145) (by kernel_rfl) (tab [(zm 3,zG)]) (zk ⟨za,trivial⟩) fun k1=>?_)
  simp only[f145]
  rw[zA (Nat.le_of_ble_eq_true rfl)]
  simp(maxSteps:=400000) only[go_sem,↓zj,encEv,zg,zh,hbx,f1,f2,f3,e1,e1g,hty,e2,e2g,a1,a1']
  exact⟨by omega,by omega,⟨by omega,by omega,wG rfl (jK ⟨el e.names 0,el e.vals 1,1000⟩)⟩,_,kK (r':=zu levelE r e .type) hy hat hf (by repeat (first | exact Chg.refl _ _ _ | refine Chg.mem ?_ (List.mem_cons_self ..) | refine Chg.mem ?_ (List.mem_cons_of_mem _ (List.mem_cons_self ..)) | refine Chg.new ?_ (by show ck < _;omega))) ((zd _ _ _).trans (congrArg (fun cs=>some (AObj.cells cs)) (by simp only[regCells,zu,List.length_append];rfl)))
   ⟨_,(zc a1').trans (zd _ _ _),wK (f:=wg) (l:=r.types) (x:=⟨el e.names 0,el e.vals 1,1000⟩) rfl fun j hj=>vn rfl rfl hj⟩ rfl rfl rfl rfl rfl,hKn _ (by omega)⟩
theorem ziE {Γ:FuncId→Option Contract}{r0:Option Nat}{k0:K}{H:Heap}{ck:Nat}{Kn:V→Heap→Nat→Prop}(hX:(⟨prog,Γ,G0,r0,k0⟩:Cx).Ok){y:Lay}{r:Reg}{e:Ev}(hat:RegAt H y r)(hy:LayOk y ck)(hf:∀ l:Loc,ck < l.1→H l=none)
 (hr:RL r) (hv:e.vals.length=2) (hn:e.names.length=1) (hKn:∀ ck',ck≤ck'→Kn (.tup []) (zx H y (zu levelE r e .house)) ck') :
 zp ⟨prog,Γ,G0,r0,k0⟩ H ck 147 [.ptr y.box y.off,.agg (encEv e)] Kn:=by
 obtain⟨box,pre,n0,n1,n2,n3,n4,n5⟩:=y
 have h0:=hy.hi box (by simp[Lay.locs])
 have f1:=fun d=>hf (ck+1,d) (by show ck < ck+1;omega)
 have f2:=fun d=>hf (ck+1+1,d) (by show ck < ck+1+1;omega)
 have f3:=fun d=>hf (ck+1+1+1,d) (by show ck < ck+1+1+1;omega)
 have e1:=fun d=>yM (l:=box) (ck:=ck) (c:=ck+1+1+1) (d:=d) h0 (by omega)
 have e1g:=fun d=>yL (l:=box) (ck:=ck) (c:=ck+1+1+1) (d:=d) h0 (by omega)
 obtain⟨r1,r2,r3,r4,r5,r6⟩:=id hr
 have nd:=hy.nd
 simp only[Lay.locs,List.nodup_cons,List.mem_cons,List.not_mem_nil,or_false,not_or] at nd
 have a1:¬ box=n1:=by obtain⟨⟨b0,b1,b2,b3,b4,b5⟩,-⟩:=nd;exact b1
 have a1':¬ n1=box:=fun q=>a1 q.symm
 have h1:=hy.hi n1 (by simp[Lay.locs])
 have e2:=fun d=>yM (l:=n1) (ck:=ck) (c:=ck+1+1+1) (d:=d) h1 (by omega)
 have e2g:=fun d=>yL (l:=n1) (ck:=ck) (c:=ck+1+1+1) (d:=d) h1 (by omega)
 have hty:H n1=some (.arr r.houses.length 2 fun i=>zZ (el r.houses i)):=hat.houses
 rcases hy.pre with q | ⟨u1,u2,q⟩
 ·have q:pre=[]:=q
  subst q
  have hbx:H box=some (.cells [.int .i64 r.day,.msl n0 0 r.types.length,.msl n1 0 r.houses.length,.msl n2 0 r.flights.length,.msl n3 0 r.maps.length,.msl n4 0 r.offers.length,.msl n5 0 r.complaints.length,.int .i64 r.fund]):=hat.box
  show zp _ H ck 147 [.ptr box 0,.agg (encEv e)] Kn
  refine zp.less (zp.inline hX func147 rfl zK (D:=D147) (by kernel_rfl) (tab [(zm 3,zG)]) (zk ⟨za,trivial⟩) fun k1=>?_)
  simp only[f147]
  rw[zA (Nat.le_of_ble_eq_true rfl)]
  simp(maxSteps:=400000) only[go_sem,↓zj,encEv,zg,zh,hbx,f1,f2,f3,e1,e1g,hty,e2,e2g,a1,a1']
  exact⟨by omega,by omega,⟨by omega,by omega,wG rfl (qm ⟨el e.names 0,el e.vals 1⟩)⟩,_,zcM (r':=zu levelE r e .house) hy hat hf (by repeat (first | exact Chg.refl _ _ _ | refine Chg.mem ?_ (List.mem_cons_self ..) | refine Chg.mem ?_ (List.mem_cons_of_mem _ (List.mem_cons_self ..)) | refine Chg.new ?_ (by show ck < _;omega))) ((zd _ _ _).trans (congrArg (fun cs=>some (AObj.cells cs)) (by simp only[regCells,zu,List.length_append];rfl)))
   ⟨_,(zc a1').trans (zd _ _ _),wK (f:=zZ) (l:=r.houses) (x:=⟨el e.names 0,el e.vals 1⟩) rfl fun j hj=>vn rfl rfl hj⟩ rfl rfl rfl rfl rfl,hKn _ (by omega)⟩
 ·have q:pre=[u1,u2]:=q
  subst q
  have hbx:H box=some (.cells [u1,u2,.int .i64 r.day,.msl n0 0 r.types.length,.msl n1 0 r.houses.length,.msl n2 0 r.flights.length,.msl n3 0 r.maps.length,.msl n4 0 r.offers.length,.msl n5 0 r.complaints.length,.int .i64 r.fund]):=hat.box
  show zp _ H ck 147 [.ptr box 2,.agg (encEv e)] Kn
  refine zp.less (zp.inline hX func147 rfl zK (D:=D147) (by kernel_rfl) (tab [(zm 3,zG)]) (zk ⟨za,trivial⟩) fun k1=>?_)
  simp only[f147]
  rw[zA (Nat.le_of_ble_eq_true rfl)]
  simp(maxSteps:=400000) only[go_sem,↓zj,encEv,zg,zh,hbx,f1,f2,f3,e1,e1g,hty,e2,e2g,a1,a1']
  exact⟨by omega,by omega,⟨by omega,by omega,wG rfl (qm ⟨el e.names 0,el e.vals 1⟩)⟩,_,zcM (r':=zu levelE r e .house) hy hat hf (by repeat (first | exact Chg.refl _ _ _ | refine Chg.mem ?_ (List.mem_cons_self ..) | refine Chg.mem ?_ (List.mem_cons_of_mem _ (List.mem_cons_self ..)) | refine Chg.new ?_ (by show ck < _;omega))) ((zd _ _ _).trans (congrArg (fun cs=>some (AObj.cells cs)) (by simp only[regCells,zu,List.length_append];rfl)))
   ⟨_,(zc a1').trans (zd _ _ _),wK (f:=zZ) (l:=r.houses) (x:=⟨el e.names 0,el e.vals 1⟩) rfl fun j hj=>vn rfl rfl hj⟩ rfl rfl rfl rfl rfl,hKn _ (by omega)⟩
theorem ziD {Γ:FuncId→Option Contract}{r0:Option Nat}{k0:K}{H:Heap}{ck:Nat}{Kn:V→Heap→Nat→Prop}(hX:(⟨prog,Γ,G0,r0,k0⟩:Cx).Ok){y:Lay}{r:Reg}{e:Ev}(hat:RegAt H y r)(hy:LayOk y ck)(hf:∀ l:Loc,ck < l.1→H l=none)
 (hr:RL r) (hv:e.vals.length=2) (hn:e.names.length=2) (hKn:∀ ck',ck≤ck'→Kn (.tup []) (zx H y (zu levelE r e .flight)) ck') :
 zp ⟨prog,Γ,G0,r0,k0⟩ H ck 149 [.ptr y.box y.off,.agg (encEv e)] Kn:=by
 obtain⟨box,pre,n0,n1,n2,n3,n4,n5⟩:=y
 have h0:=hy.hi box (by simp[Lay.locs])
 have f1:=fun d=>hf (ck+1,d) (by show ck < ck+1;omega)
 have f2:=fun d=>hf (ck+1+1,d) (by show ck < ck+1+1;omega)
 have f3:=fun d=>hf (ck+1+1+1,d) (by show ck < ck+1+1+1;omega)
 have e1:=fun d=>yM (l:=box) (ck:=ck) (c:=ck+1+1+1) (d:=d) h0 (by omega)
 have e1g:=fun d=>yL (l:=box) (ck:=ck) (c:=ck+1+1+1) (d:=d) h0 (by omega)
 obtain⟨r1,r2,r3,r4,r5,r6⟩:=id hr
 have nd:=hy.nd
 simp only[Lay.locs,List.nodup_cons,List.mem_cons,List.not_mem_nil,or_false,not_or] at nd
 have a1:¬ box=n2:=by obtain⟨⟨b0,b1,b2,b3,b4,b5⟩,-⟩:=nd;exact b2
 have a1':¬ n2=box:=fun q=>a1 q.symm
 have h1:=hy.hi n2 (by simp[Lay.locs])
 have e2:=fun d=>yM (l:=n2) (ck:=ck) (c:=ck+1+1+1) (d:=d) h1 (by omega)
 have e2g:=fun d=>yL (l:=n2) (ck:=ck) (c:=ck+1+1+1) (d:=d) h1 (by omega)
 have hty:H n2=some (.arr r.flights.length 5 fun i=>zM (el r.flights i)):=hat.flights
 rcases hy.pre with q | ⟨u1,u2,q⟩
 ·have q:pre=[]:=q
  subst q
  have hbx:H box=some (.cells [.int .i64 r.day,.msl n0 0 r.types.length,.msl n1 0 r.houses.length,.msl n2 0 r.flights.length,.msl n3 0 r.maps.length,.msl n4 0 r.offers.length,.msl n5 0 r.complaints.length,.int .i64 r.fund]):=hat.box
  show zp _ H ck 149 [.ptr box 0,.agg (encEv e)] Kn
  refine zp.less (zp.inline hX func149 rfl zK (D:=D149) (by kernel_rfl) (tab [(zm 3,zG)]) (zk ⟨za,trivial⟩) fun k1=>?_)
  simp only[f149]
  rw[zA (Nat.le_of_ble_eq_true rfl)]
  simp(maxSteps:=400000) only[go_sem,↓zj,encEv,zg,zh,hbx,f1,f2,f3,e1,e1g,hty,e2,e2g,a1,a1']
  exact⟨by omega,by omega,by omega,by omega,⟨by omega,by omega,wG rfl (vN ⟨el e.names 0,el e.names 1,el e.vals 0,el e.vals 1,-1⟩)⟩,_,jJ (r':=zu levelE r e .flight) hy hat hf (by repeat (first | exact Chg.refl _ _ _ | refine Chg.mem ?_ (List.mem_cons_self ..) | refine Chg.mem ?_ (List.mem_cons_of_mem _ (List.mem_cons_self ..)) | refine Chg.new ?_ (by show ck < _;omega))) ((zd _ _ _).trans (congrArg (fun cs=>some (AObj.cells cs)) (by simp only[regCells,zu,List.length_append];rfl)))
   ⟨_,(zc a1').trans (zd _ _ _),wK (f:=zM) (l:=r.flights) (x:=⟨el e.names 0,el e.names 1,el e.vals 0,el e.vals 1,-1⟩) rfl fun j hj=>vn rfl rfl hj⟩ rfl rfl rfl rfl rfl,hKn _ (by omega)⟩
 ·have q:pre=[u1,u2]:=q
  subst q
  have hbx:H box=some (.cells [u1,u2,.int .i64 r.day,.msl n0 0 r.types.length,.msl n1 0 r.houses.length,.msl n2 0 r.flights.length,.msl n3 0 r.maps.length,.msl n4 0 r.offers.length,.msl n5 0 r.complaints.length,.int .i64 r.fund]):=hat.box
  show zp _ H ck 149 [.ptr box 2,.agg (encEv e)] Kn
  refine zp.less (zp.inline hX func149 rfl zK (D:=D149) (by kernel_rfl) (tab [(zm 3,zG)]) (zk ⟨za,trivial⟩) fun k1=>?_)
  simp only[f149]
  rw[zA (Nat.le_of_ble_eq_true rfl)]
  simp(maxSteps:=400000) only[go_sem,↓zj,encEv,zg,zh,hbx,f1,f2,f3,e1,e1g,hty,e2,e2g,a1,a1']
  exact⟨by omega,by omega,by omega,by omega,⟨by omega,by omega,wG rfl (vN ⟨el e.names 0,el e.names 1,el e.vals 0,el e.vals 1,-1⟩)⟩,_,jJ (r':=zu levelE r e .flight) hy hat hf (by repeat (first | exact Chg.refl _ _ _ | refine Chg.mem ?_ (List.mem_cons_self ..) | refine Chg.mem ?_ (List.mem_cons_of_mem _ (List.mem_cons_self ..)) | refine Chg.new ?_ (by show ck < _;omega))) ((zd _ _ _).trans (congrArg (fun cs=>some (AObj.cells cs)) (by simp only[regCells,zu,List.length_append];rfl)))
   ⟨_,(zc a1').trans (zd _ _ _),wK (f:=zM) (l:=r.flights) (x:=⟨el e.names 0,el e.names 1,el e.vals 0,el e.vals 1,-1⟩) rfl fun j hj=>vn rfl rfl hj⟩ rfl rfl rfl rfl rfl,hKn _ (by omega)⟩
theorem ziz {Γ:FuncId→Option Contract}{r0:Option Nat}{k0:K}{H:Heap}{ck:Nat}{Kn:V→Heap→Nat→Prop}(hX:(⟨prog,Γ,G0,r0,k0⟩:Cx).Ok){y:Lay}{r:Reg}{e:Ev}(hat:RegAt H y r)(hy:LayOk y ck)(hf:∀ l:Loc,ck < l.1→H l=none)
 (hr:RL r) (hv:e.vals.length=2) (hn:e.names.length=2) (hKn:∀ ck',ck≤ck'→Kn (.tup []) (zx H y (zu levelE r e .offer)) ck') :
 zp ⟨prog,Γ,G0,r0,k0⟩ H ck 165 [.ptr y.box y.off,.agg (encEv e)] Kn:=by
 obtain⟨box,pre,n0,n1,n2,n3,n4,n5⟩:=y
 have h0:=hy.hi box (by simp[Lay.locs])
 have f1:=fun d=>hf (ck+1,d) (by show ck < ck+1;omega)
 have f2:=fun d=>hf (ck+1+1,d) (by show ck < ck+1+1;omega)
 have f3:=fun d=>hf (ck+1+1+1,d) (by show ck < ck+1+1+1;omega)
 have e1:=fun d=>yM (l:=box) (ck:=ck) (c:=ck+1+1+1) (d:=d) h0 (by omega)
 have e1g:=fun d=>yL (l:=box) (ck:=ck) (c:=ck+1+1+1) (d:=d) h0 (by omega)
 obtain⟨r1,r2,r3,r4,r5,r6⟩:=id hr
 have nd:=hy.nd
 simp only[Lay.locs,List.nodup_cons,List.mem_cons,List.not_mem_nil,or_false,not_or] at nd
 have a1:¬ box=n4:=by obtain⟨⟨b0,b1,b2,b3,b4,b5⟩,-⟩:=nd;exact b4
 have a1':¬ n4=box:=fun q=>a1 q.symm
 have h1:=hy.hi n4 (by simp[Lay.locs])
 have e2:=fun d=>yM (l:=n4) (ck:=ck) (c:=ck+1+1+1) (d:=d) h1 (by omega)
 have e2g:=fun d=>yL (l:=n4) (ck:=ck) (c:=ck+1+1+1) (d:=d) h1 (by omega)
 have hty:H n4=some (.arr r.offers.length 4 fun i=>zX (el r.offers i)):=hat.offers
 rcases hy.pre with q | ⟨u1,u2,q⟩
 ·have q:pre=[]:=q
  subst q
  have hbx:H box=some (.cells [.int .i64 r.day,.msl n0 0 r.types.length,.msl n1 0 r.houses.length,.msl n2 0 r.flights.length,.msl n3 0 r.maps.length,.msl n4 0 r.offers.length,.msl n5 0 r.complaints.length,.int .i64 r.fund]):=hat.box
  show zp _ H ck 165 [.ptr box 0,.agg (encEv e)] Kn
  refine zp.less (zp.inline hX func165 rfl zK (D:=D165) (by kernel_rfl) (tab [(zm 3,zG)]) (zk ⟨za,trivial⟩) fun k1=>?_)
  simp only[f165]
  rw[zA (Nat.le_of_ble_eq_true rfl)]
  simp(maxSteps:=400000) only[go_sem,↓zj,encEv,zg,zh,hbx,f1,f2,f3,e1,e1g,hty,e2,e2g,a1,a1']
  exact⟨by omega,by omega,by omega,⟨by omega,by omega,wG rfl (jL ⟨el e.names 0,el e.names 1,el e.vals 1,false⟩)⟩,_,qE (r':=zu levelE r e .offer) hy hat hf (by repeat (first | exact Chg.refl _ _ _ | refine Chg.mem ?_ (List.mem_cons_self ..) | refine Chg.mem ?_ (List.mem_cons_of_mem _ (List.mem_cons_self ..)) | refine Chg.new ?_ (by show ck < _;omega))) ((zd _ _ _).trans (congrArg (fun cs=>some (AObj.cells cs)) (by simp only[regCells,zu,List.length_append];rfl)))
   ⟨_,(zc a1').trans (zd _ _ _),wK (f:=zX) (l:=r.offers) (x:=⟨el e.names 0,el e.names 1,el e.vals 1,false⟩) rfl fun j hj=>vn rfl rfl hj⟩ rfl rfl rfl rfl rfl,hKn _ (by omega)⟩
 ·have q:pre=[u1,u2]:=q
  subst q
  have hbx:H box=some (.cells [u1,u2,.int .i64 r.day,.msl n0 0 r.types.length,.msl n1 0 r.houses.length,.msl n2 0 r.flights.length,.msl n3 0 r.maps.length,.msl n4 0 r.offers.length,.msl n5 0 r.complaints.length,.int .i64 r.fund]):=hat.box
  show zp _ H ck 165 [.ptr box 2,.agg (encEv e)] Kn
  refine zp.less (zp.inline hX func165 rfl zK (D:=D165) (by kernel_rfl) (tab [(zm 3,zG)]) (zk ⟨za,trivial⟩) fun k1=>?_)
  simp only[f165]
  rw[zA (Nat.le_of_ble_eq_true rfl)]
  simp(maxSteps:=400000) only[go_sem,↓zj,encEv,zg,zh,hbx,f1,f2,f3,e1,e1g,hty,e2,e2g,a1,a1']
  exact⟨by omega,by omega,by omega,⟨by omega,by omega,wG rfl (jL ⟨el e.names 0,el e.names 1,el e.vals 1,false⟩)⟩,_,qE (r':=zu levelE r e .offer) hy hat hf (by repeat (first | exact Chg.refl _ _ _ | refine Chg.mem ?_ (List.mem_cons_self ..) | refine Chg.mem ?_ (List.mem_cons_of_mem _ (List.mem_cons_self ..)) | refine Chg.new ?_ (by show ck < _;omega))) ((zd _ _ _).trans (congrArg (fun cs=>some (AObj.cells cs)) (by simp only[regCells,zu,List.length_append];rfl)))
   ⟨_,(zc a1').trans (zd _ _ _),wK (f:=zX) (l:=r.offers) (x:=⟨el e.names 0,el e.names 1,el e.vals 1,false⟩) rfl fun j hj=>vn rfl rfl hj⟩ rfl rfl rfl rfl rfl,hKn _ (by omega)⟩
theorem zfJ {Γ:FuncId→Option Contract}{r0:Option Nat}{k0:K}{H:Heap}{ck:Nat}{Kn:V→Heap→Nat→Prop}(hX:(⟨prog,Γ,G0,r0,k0⟩:Cx).Ok){y:Lay}{r:Reg}{e:Ev}(hat:RegAt H y r)(hy:LayOk y ck)(hf:∀ l:Loc,ck < l.1→H l=none)
 (hr:RL r) (hv:e.vals.length=2) (hn:e.names.length=2) (hKn:∀ ck',ck≤ck'→Kn (.tup []) (zx H y (zu levelE r e .complain)) ck') :
 zp ⟨prog,Γ,G0,r0,k0⟩ H ck 172 [.ptr y.box y.off,.agg (encEv e)] Kn:=by
 obtain⟨box,pre,n0,n1,n2,n3,n4,n5⟩:=y
 have h0:=hy.hi box (by simp[Lay.locs])
 have f1:=fun d=>hf (ck+1,d) (by show ck < ck+1;omega)
 have f2:=fun d=>hf (ck+1+1,d) (by show ck < ck+1+1;omega)
 have f3:=fun d=>hf (ck+1+1+1,d) (by show ck < ck+1+1+1;omega)
 have e1:=fun d=>yM (l:=box) (ck:=ck) (c:=ck+1+1+1) (d:=d) h0 (by omega)
 have e1g:=fun d=>yL (l:=box) (ck:=ck) (c:=ck+1+1+1) (d:=d) h0 (by omega)
 obtain⟨r1,r2,r3,r4,r5,r6⟩:=id hr
 have nd:=hy.nd
 simp only[Lay.locs,List.nodup_cons,List.mem_cons,List.not_mem_nil,or_false,not_or] at nd
 have a1:¬ box=n5:=by obtain⟨⟨b0,b1,b2,b3,b4,b5⟩,-⟩:=nd;exact b5
 have a1':¬ n5=box:=fun q=>a1 q.symm
 have h1:=hy.hi n5 (by simp[Lay.locs])
 have e2:=fun d=>yM (l:=n5) (ck:=ck) (c:=ck+1+1+1) (d:=d) h1 (by omega)
 have e2g:=fun d=>yL (l:=n5) (ck:=ck) (c:=ck+1+1+1) (d:=d) h1 (by omega)
 have hty:H n5=some (.arr r.complaints.length 6 fun i=>zP (el r.complaints i)):=hat.complaints
 rcases hy.pre with q | ⟨u1,u2,q⟩
 ·have q:pre=[]:=q
  subst q
  have hbx:H box=some (.cells [.int .i64 r.day,.msl n0 0 r.types.length,.msl n1 0 r.houses.length,.msl n2 0 r.flights.length,.msl n3 0 r.maps.length,.msl n4 0 r.offers.length,.msl n5 0 r.complaints.length,.int .i64 r.fund]):=hat.box
  show zp _ H ck 172 [.ptr box 0,.agg (encEv e)] Kn
  refine zp.less (zp.inline hX func172 rfl zK (D:=D172) (by kernel_rfl) (tab [(zm 3,zG)]) (zk ⟨za,trivial⟩) fun k1=>?_)
  simp only[f172]
  rw[zA (Nat.le_of_ble_eq_true rfl)]
  simp(maxSteps:=400000) only[go_sem,↓zj,encEv,zg,zh,hbx,f1,f2,f3,e1,e1g,hty,e2,e2g,a1,a1']
  exact⟨by omega,by omega,by omega,by omega,⟨by omega,by omega,wG rfl (vO ⟨el e.names 0,el e.names 1,el e.vals 0,el e.vals 1,[],-1⟩)⟩,_,yv (r':=zu levelE r e .complain) hy hat hf (by repeat (first | exact Chg.refl _ _ _ | refine Chg.mem ?_ (List.mem_cons_self ..) | refine Chg.mem ?_ (List.mem_cons_of_mem _ (List.mem_cons_self ..)) | refine Chg.new ?_ (by show ck < _;omega))) ((zd _ _ _).trans (congrArg (fun cs=>some (AObj.cells cs)) (by simp only[regCells,zu,List.length_append];rfl)))
   ⟨_,(zc a1').trans (zd _ _ _),wK (f:=zP) (l:=r.complaints) (x:=⟨el e.names 0,el e.names 1,el e.vals 0,el e.vals 1,[],-1⟩) rfl fun j hj=>vn rfl rfl hj⟩ rfl rfl rfl rfl rfl,hKn _ (by omega)⟩
 ·have q:pre=[u1,u2]:=q
  subst q
  have hbx:H box=some (.cells [u1,u2,.int .i64 r.day,.msl n0 0 r.types.length,.msl n1 0 r.houses.length,.msl n2 0 r.flights.length,.msl n3 0 r.maps.length,.msl n4 0 r.offers.length,.msl n5 0 r.complaints.length,.int .i64 r.fund]):=hat.box
  show zp _ H ck 172 [.ptr box 2,.agg (encEv e)] Kn
  refine zp.less (zp.inline hX func172 rfl zK (D:=D172) (by kernel_rfl) (tab [(zm 3,zG)]) (zk ⟨za,trivial⟩) fun k1=>?_)
  simp only[f172]
  rw[zA (Nat.le_of_ble_eq_true rfl)]
  simp(maxSteps:=400000) only[go_sem,↓zj,encEv,zg,zh,hbx,f1,f2,f3,e1,e1g,hty,e2,e2g,a1,a1']
  exact⟨by omega,by omega,by omega,by omega,⟨by omega,by omega,wG rfl (vO ⟨el e.names 0,el e.names 1,el e.vals 0,el e.vals 1,[],-1⟩)⟩,_,yv (r':=zu levelE r e .complain) hy hat hf (by repeat (first | exact Chg.refl _ _ _ | refine Chg.mem ?_ (List.mem_cons_self ..) | refine Chg.mem ?_ (List.mem_cons_of_mem _ (List.mem_cons_self ..)) | refine Chg.new ?_ (by show ck < _;omega))) ((zd _ _ _).trans (congrArg (fun cs=>some (AObj.cells cs)) (by simp only[regCells,zu,List.length_append];rfl)))
   ⟨_,(zc a1').trans (zd _ _ _),wK (f:=zP) (l:=r.complaints) (x:=⟨el e.names 0,el e.names 1,el e.vals 0,el e.vals 1,[],-1⟩) rfl fun j hj=>vn rfl rfl hj⟩ rfl rfl rfl rfl rfl,hKn _ (by omega)⟩
theorem ziy {Γ:FuncId→Option Contract}{r0:Option Nat}{k0:K}{H:Heap}{ck:Nat}{Kn:V→Heap→Nat→Prop}(hX:(⟨prog,Γ,G0,r0,k0⟩:Cx).Ok){y:Lay}{r:Reg}{e:Ev}(hat:RegAt H y r)(hy:LayOk y ck)(hf:∀ l:Loc,ck < l.1→H l=none)
 (hr:RL r) (hv:e.vals.length=2) (hb:0≤el e.vals 1∧el e.vals 1≤999999999) (hfd:0≤r.fund∧r.fund≤1000000000000) (hKn:∀ ck',ck≤ck'→Kn (.tup []) (zx H y (zu levelE r e .fund)) ck') :
 zp ⟨prog,Γ,G0,r0,k0⟩ H ck 167 [.ptr y.box y.off,.agg (encEv e)] Kn:=by
 obtain⟨box,pre,n0,n1,n2,n3,n4,n5⟩:=y
 have h0:=hy.hi box (by simp[Lay.locs])
 have f1:=fun d=>hf (ck+1,d) (by show ck < ck+1;omega)
 have f2:=fun d=>hf (ck+1+1,d) (by show ck < ck+1+1;omega)
 have f3:=fun d=>hf (ck+1+1+1,d) (by show ck < ck+1+1+1;omega)
 have e1:=fun d=>yM (l:=box) (ck:=ck) (c:=ck+1+1+1) (d:=d) h0 (by omega)
 have e1g:=fun d=>yL (l:=box) (ck:=ck) (c:=ck+1+1+1) (d:=d) h0 (by omega)
 obtain⟨r1,r2,r3,r4,r5,r6⟩:=id hr
 rcases hy.pre with q | ⟨u1,u2,q⟩
 ·have q:pre=[]:=q
  subst q
  have hbx:H box=some (.cells [.int .i64 r.day,.msl n0 0 r.types.length,.msl n1 0 r.houses.length,.msl n2 0 r.flights.length,.msl n3 0 r.maps.length,.msl n4 0 r.offers.length,.msl n5 0 r.complaints.length,.int .i64 r.fund]):=hat.box
  show zp _ H ck 167 [.ptr box 0,.agg (encEv e)] Kn
  refine zp.less (zp.inline hX func167 rfl zK (D:=D167) (by kernel_rfl) (tab [(zm 3,zG)]) (zk ⟨za,trivial⟩) fun k1=>?_)
  simp only[f167]
  rw[zA (Nat.le_of_ble_eq_true rfl)]
  simp(maxSteps:=400000) only[go_sem,↓zj,encEv,zg,zh,hbx,f1,f2,f3,e1,e1g]
  exact⟨by omega,zn (by omega) (by omega),_,zle (r':=zu levelE r e .fund) hy hat hf (by repeat (first | exact Chg.refl _ _ _ | refine Chg.mem ?_ (List.mem_cons_self ..) | refine Chg.mem ?_ (List.mem_cons_of_mem _ (List.mem_cons_self ..)) | refine Chg.new ?_ (by show ck < _;omega))) ((zd _ _ _).trans (congrArg (fun cs=>some (AObj.cells cs)) (by simp only[regCells,zu,List.length_append];rfl))) rfl rfl rfl rfl rfl rfl,hKn _ (by omega)⟩
 ·have q:pre=[u1,u2]:=q
  subst q
  have hbx:H box=some (.cells [u1,u2,.int .i64 r.day,.msl n0 0 r.types.length,.msl n1 0 r.houses.length,.msl n2 0 r.flights.length,.msl n3 0 r.maps.length,.msl n4 0 r.offers.length,.msl n5 0 r.complaints.length,.int .i64 r.fund]):=hat.box
  show zp _ H ck 167 [.ptr box 2,.agg (encEv e)] Kn
  refine zp.less (zp.inline hX func167 rfl zK (D:=D167) (by kernel_rfl) (tab [(zm 3,zG)]) (zk ⟨za,trivial⟩) fun k1=>?_)
  simp only[f167]
  rw[zA (Nat.le_of_ble_eq_true rfl)]
  simp(maxSteps:=400000) only[go_sem,↓zj,encEv,zg,zh,hbx,f1,f2,f3,e1,e1g]
  exact⟨by omega,zn (by omega) (by omega),_,zle (r':=zu levelE r e .fund) hy hat hf (by repeat (first | exact Chg.refl _ _ _ | refine Chg.mem ?_ (List.mem_cons_self ..) | refine Chg.mem ?_ (List.mem_cons_of_mem _ (List.mem_cons_self ..)) | refine Chg.new ?_ (by show ck < _;omega))) ((zd _ _ _).trans (congrArg (fun cs=>some (AObj.cells cs)) (by simp only[regCells,zu,List.length_append];rfl))) rfl rfl rfl rfl rfl rfl,hKn _ (by omega)⟩
theorem zft {Γ:FuncId→Option Contract}{r0:Option Nat}{k0:K}{H:Heap}{ck:Nat}{Kn:V→Heap→Nat→Prop}(hX:(⟨prog,Γ,G0,r0,k0⟩:Cx).Ok){y:Lay}{r:Reg}{s:Str}(hat:RegAt H y r)(hy:LayOk y ck)(hf:∀ l:Loc,ck < l.1→H l=none)
 (hr:RL r) (hs:s∈r.namesOf 116) (hKn:∀ ck',ck≤ck'→Kn (.eptr y.n0 r.types.length 3 (zO (r.namesOf 116) s) 0) H ck') :
 zp ⟨prog,Γ,G0,r0,k0⟩ H ck 157 [.ptr y.box y.off,.str s] Kn:=by
 obtain⟨box,pre,n0,n1,n2,n3,n4,n5⟩:=y
 have hn0:H n0=some (.arr r.types.length 3 fun i=>wg (el r.types i)):=hat.types
 have hn1:H n1=some (.arr r.houses.length 2 fun i=>zZ (el r.houses i)):=hat.houses
 have hn2:H n2=some (.arr r.flights.length 5 fun i=>zM (el r.flights i)):=hat.flights
 have hn3:H n3=some (.arr r.maps.length 3 fun i=>wq (el r.maps i)):=hat.maps
 have hn4:H n4=some (.arr r.offers.length 4 fun i=>zX (el r.offers i)):=hat.offers
 have hn5:H n5=some (.arr r.complaints.length 6 fun i=>zP (el r.complaints i)):=hat.complaints
 have h0:=hy.hi box (by simp[Lay.locs])
 have e1g:=fun d=>yL (l:=box) (ck:=ck) (c:=ck+1+1+1) (d:=d) h0 (by omega)
 have hix:=yz hs
 have hlt:zO (r.namesOf 116) s < r.types.length:=zU (f:=Ty.name) hs
 rcases hy.pre with q | ⟨u1,u2,q⟩
 ·have q:pre=[]:=q
  subst q
  have hbx:H box=some (.cells [.int .i64 r.day,.msl n0 0 r.types.length,.msl n1 0 r.houses.length,.msl n2 0 r.flights.length,.msl n3 0 r.maps.length,.msl n4 0 r.offers.length,.msl n5 0 r.complaints.length,.int .i64 r.fund]):=hat.box
  show zp _ H ck 157 [.ptr box 0,.str s] Kn
  refine zp.inline hX func157 rfl zK (D:=D157) (by kernel_rfl) (tab [(105,yY)]) (zk ⟨wQ,trivial⟩) fun k1=>?_
  simp only[f157]
  rw[zA (Nat.le_of_ble_eq_true rfl)]
  simp(maxSteps:=400000) only[go_sem,↓zj,hbx,hn0,hn1,hn2,hn3,hn4,hn5,jh,Nat.zero_add,hix,Int.toNat_natCast,e1g]
  exact⟨⟨r,_,s,rfl,hr⟩,⟨by omega,by omega⟩,hKn _ (by omega)⟩
 ·have q:pre=[u1,u2]:=q
  subst q
  have hbx:H box=some (.cells [u1,u2,.int .i64 r.day,.msl n0 0 r.types.length,.msl n1 0 r.houses.length,.msl n2 0 r.flights.length,.msl n3 0 r.maps.length,.msl n4 0 r.offers.length,.msl n5 0 r.complaints.length,.int .i64 r.fund]):=hat.box
  show zp _ H ck 157 [.ptr box 2,.str s] Kn
  refine zp.inline hX func157 rfl zK (D:=D157) (by kernel_rfl) (tab [(105,yY)]) (zk ⟨wQ,trivial⟩) fun k1=>?_
  simp only[f157]
  rw[zA (Nat.le_of_ble_eq_true rfl)]
  simp(maxSteps:=400000) only[go_sem,↓zj,hbx,hn0,hn1,hn2,hn3,hn4,hn5,jh,Nat.zero_add,hix,Int.toNat_natCast,e1g]
  exact⟨⟨r,_,s,rfl,hr⟩,⟨by omega,by omega⟩,hKn _ (by omega)⟩
theorem zc6 {Γ:FuncId→Option Contract}{r0:Option Nat}{k0:K}{H:Heap}{ck:Nat}{Kn:V→Heap→Nat→Prop}(hX:(⟨prog,Γ,G0,r0,k0⟩:Cx).Ok){y:Lay}{r:Reg}{s:Str}(hat:RegAt H y r)(hy:LayOk y ck)(hf:∀ l:Loc,ck < l.1→H l=none)
 (hr:RL r) (hs:s∈r.namesOf 102) (hKn:∀ ck',ck≤ck'→Kn (.eptr y.n2 r.flights.length 5 (zO (r.namesOf 102) s) 0) H ck') :
 zp ⟨prog,Γ,G0,r0,k0⟩ H ck 151 [.ptr y.box y.off,.str s] Kn:=by
 obtain⟨box,pre,n0,n1,n2,n3,n4,n5⟩:=y
 have hn0:H n0=some (.arr r.types.length 3 fun i=>wg (el r.types i)):=hat.types
 have hn1:H n1=some (.arr r.houses.length 2 fun i=>zZ (el r.houses i)):=hat.houses
 have hn2:H n2=some (.arr r.flights.length 5 fun i=>zM (el r.flights i)):=hat.flights
 have hn3:H n3=some (.arr r.maps.length 3 fun i=>wq (el r.maps i)):=hat.maps
 have hn4:H n4=some (.arr r.offers.length 4 fun i=>zX (el r.offers i)):=hat.offers
 have hn5:H n5=some (.arr r.complaints.length 6 fun i=>zP (el r.complaints i)):=hat.complaints
 have h0:=hy.hi box (by simp[Lay.locs])
 have e1g:=fun d=>yL (l:=box) (ck:=ck) (c:=ck+1+1+1) (d:=d) h0 (by omega)
 have hix:=yz hs
 have hlt:zO (r.namesOf 102) s < r.flights.length:=zU (f:=Fl.name) hs
 rcases hy.pre with q | ⟨u1,u2,q⟩
 ·have q:pre=[]:=q
  subst q
  have hbx:H box=some (.cells [.int .i64 r.day,.msl n0 0 r.types.length,.msl n1 0 r.houses.length,.msl n2 0 r.flights.length,.msl n3 0 r.maps.length,.msl n4 0 r.offers.length,.msl n5 0 r.complaints.length,.int .i64 r.fund]):=hat.box
  show zp _ H ck 151 [.ptr box 0,.str s] Kn
  refine zp.inline hX func151 rfl zK (D:=D151) (by kernel_rfl) (tab [(105,yY)]) (zk ⟨wQ,trivial⟩) fun k1=>?_
  simp only[f151]
  rw[zA (Nat.le_of_ble_eq_true rfl)]
  simp(maxSteps:=400000) only[go_sem,↓zj,hbx,hn0,hn1,hn2,hn3,hn4,hn5,jh,Nat.zero_add,hix,Int.toNat_natCast,e1g]
  exact⟨⟨r,_,s,rfl,hr⟩,⟨by omega,by omega⟩,hKn _ (by omega)⟩
 ·have q:pre=[u1,u2]:=q
  subst q
  have hbx:H box=some (.cells [u1,u2,.int .i64 r.day,.msl n0 0 r.types.length,.msl n1 0 r.houses.length,.msl n2 0 r.flights.length,.msl n3 0 r.maps.length,.msl n4 0 r.offers.length,.msl n5 0 r.complaints.length,.int .i64 r.fund]):=hat.box
  show zp _ H ck 151 [.ptr box 2,.str s] Kn
  refine zp.inline hX func151 rfl zK (D:=D151) (by kernel_rfl) (tab [(105,yY)]) (zk ⟨wQ,trivial⟩) fun k1=>?_
  simp only[f151]
  rw[zA (Nat.le_of_ble_eq_true rfl)]
  simp(maxSteps:=400000) only[go_sem,↓zj,hbx,hn0,hn1,hn2,hn3,hn4,hn5,jh,Nat.zero_add,hix,Int.toNat_natCast,e1g]
  exact⟨⟨r,_,s,rfl,hr⟩,⟨by omega,by omega⟩,hKn _ (by omega)⟩
theorem zcU {Γ:FuncId→Option Contract}{r0:Option Nat}{k0:K}{H:Heap}{ck:Nat}{Kn:V→Heap→Nat→Prop}(hX:(⟨prog,Γ,G0,r0,k0⟩:Cx).Ok){y:Lay}{r:Reg}{s:Str}(hat:RegAt H y r)(hy:LayOk y ck)(hf:∀ l:Loc,ck < l.1→H l=none)
 (hr:RL r) (hs:s∈r.namesOf 111) (hKn:∀ ck',ck≤ck'→Kn (.eptr y.n4 r.offers.length 4 (zO (r.namesOf 111) s) 0) H ck') :
 zp ⟨prog,Γ,G0,r0,k0⟩ H ck 169 [.ptr y.box y.off,.str s] Kn:=by
 obtain⟨box,pre,n0,n1,n2,n3,n4,n5⟩:=y
 have hn0:H n0=some (.arr r.types.length 3 fun i=>wg (el r.types i)):=hat.types
 have hn1:H n1=some (.arr r.houses.length 2 fun i=>zZ (el r.houses i)):=hat.houses
 have hn2:H n2=some (.arr r.flights.length 5 fun i=>zM (el r.flights i)):=hat.flights
 have hn3:H n3=some (.arr r.maps.length 3 fun i=>wq (el r.maps i)):=hat.maps
 have hn4:H n4=some (.arr r.offers.length 4 fun i=>zX (el r.offers i)):=hat.offers
 have hn5:H n5=some (.arr r.complaints.length 6 fun i=>zP (el r.complaints i)):=hat.complaints
 have h0:=hy.hi box (by simp[Lay.locs])
 have e1g:=fun d=>yL (l:=box) (ck:=ck) (c:=ck+1+1+1) (d:=d) h0 (by omega)
 have hix:=yz hs
 have hlt:zO (r.namesOf 111) s < r.offers.length:=zU (f:=Of.name) hs
 rcases hy.pre with q | ⟨u1,u2,q⟩
 ·have q:pre=[]:=q
  subst q
  have hbx:H box=some (.cells [.int .i64 r.day,.msl n0 0 r.types.length,.msl n1 0 r.houses.length,.msl n2 0 r.flights.length,.msl n3 0 r.maps.length,.msl n4 0 r.offers.length,.msl n5 0 r.complaints.length,.int .i64 r.fund]):=hat.box
  show zp _ H ck 169 [.ptr box 0,.str s] Kn
  refine zp.inline hX func169 rfl zK (D:=D169) (by kernel_rfl) (tab [(105,yY)]) (zk ⟨wQ,trivial⟩) fun k1=>?_
  simp only[f169]
  rw[zA (Nat.le_of_ble_eq_true rfl)]
  simp(maxSteps:=400000) only[go_sem,↓zj,hbx,hn0,hn1,hn2,hn3,hn4,hn5,jh,Nat.zero_add,hix,Int.toNat_natCast,e1g]
  exact⟨⟨r,_,s,rfl,hr⟩,⟨by omega,by omega⟩,hKn _ (by omega)⟩
 ·have q:pre=[u1,u2]:=q
  subst q
  have hbx:H box=some (.cells [u1,u2,.int .i64 r.day,.msl n0 0 r.types.length,.msl n1 0 r.houses.length,.msl n2 0 r.flights.length,.msl n3 0 r.maps.length,.msl n4 0 r.offers.length,.msl n5 0 r.complaints.length,.int .i64 r.fund]):=hat.box
  show zp _ H ck 169 [.ptr box 2,.str s] Kn
  refine zp.inline hX func169 rfl zK (D:=D169) (by kernel_rfl) (tab [(105,yY)]) (zk ⟨wQ,trivial⟩) fun k1=>?_
  simp only[f169]
  rw[zA (Nat.le_of_ble_eq_true rfl)]
  simp(maxSteps:=400000) only[go_sem,↓zj,hbx,hn0,hn1,hn2,hn3,hn4,hn5,jh,Nat.zero_add,hix,Int.toNat_natCast,e1g]
  exact⟨⟨r,_,s,rfl,hr⟩,⟨by omega,by omega⟩,hKn _ (by omega)⟩
theorem vm {Γ:FuncId→Option Contract}{r0:Option Nat}{k0:K}{H:Heap}{ck:Nat}{Kn:V→Heap→Nat→Prop}(hX:(⟨prog,Γ,G0,r0,k0⟩:Cx).Ok){y:Lay}{r:Reg}{s:Str}(hat:RegAt H y r)(hy:LayOk y ck)(hf:∀ l:Loc,ck < l.1→H l=none)
 (hr:RL r) (hs:s∈r.namesOf 99) (hKn:∀ ck',ck≤ck'→Kn (.eptr y.n5 r.complaints.length 6 (zO (r.namesOf 99) s) 0) H ck') :
 zp ⟨prog,Γ,G0,r0,k0⟩ H ck 174 [.ptr y.box y.off,.str s] Kn:=by
 obtain⟨box,pre,n0,n1,n2,n3,n4,n5⟩:=y
 have hn0:H n0=some (.arr r.types.length 3 fun i=>wg (el r.types i)):=hat.types
 have hn1:H n1=some (.arr r.houses.length 2 fun i=>zZ (el r.houses i)):=hat.houses
 have hn2:H n2=some (.arr r.flights.length 5 fun i=>zM (el r.flights i)):=hat.flights
 have hn3:H n3=some (.arr r.maps.length 3 fun i=>wq (el r.maps i)):=hat.maps
 have hn4:H n4=some (.arr r.offers.length 4 fun i=>zX (el r.offers i)):=hat.offers
 have hn5:H n5=some (.arr r.complaints.length 6 fun i=>zP (el r.complaints i)):=hat.complaints
 have h0:=hy.hi box (by simp[Lay.locs])
 have e1g:=fun d=>yL (l:=box) (ck:=ck) (c:=ck+1+1+1) (d:=d) h0 (by omega)
 have hix:=yz hs
 have hlt:zO (r.namesOf 99) s < r.complaints.length:=zU (f:=Co.name) hs
 rcases hy.pre with q | ⟨u1,u2,q⟩
 ·have q:pre=[]:=q
  subst q
  have hbx:H box=some (.cells [.int .i64 r.day,.msl n0 0 r.types.length,.msl n1 0 r.houses.length,.msl n2 0 r.flights.length,.msl n3 0 r.maps.length,.msl n4 0 r.offers.length,.msl n5 0 r.complaints.length,.int .i64 r.fund]):=hat.box
  show zp _ H ck 174 [.ptr box 0,.str s] Kn
  refine zp.inline hX func174 rfl zK (D:=D174) (by kernel_rfl) (tab [(105,yY)]) (zk ⟨wQ,trivial⟩) fun k1=>?_
  simp only[f174]
  rw[zA (Nat.le_of_ble_eq_true rfl)]
  simp(maxSteps:=400000) only[go_sem,↓zj,hbx,hn0,hn1,hn2,hn3,hn4,hn5,jh,Nat.zero_add,hix,Int.toNat_natCast,e1g]
  exact⟨⟨r,_,s,rfl,hr⟩,⟨by omega,by omega⟩,hKn _ (by omega)⟩
 ·have q:pre=[u1,u2]:=q
  subst q
  have hbx:H box=some (.cells [u1,u2,.int .i64 r.day,.msl n0 0 r.types.length,.msl n1 0 r.houses.length,.msl n2 0 r.flights.length,.msl n3 0 r.maps.length,.msl n4 0 r.offers.length,.msl n5 0 r.complaints.length,.int .i64 r.fund]):=hat.box
  show zp _ H ck 174 [.ptr box 2,.str s] Kn
  refine zp.inline hX func174 rfl zK (D:=D174) (by kernel_rfl) (tab [(105,yY)]) (zk ⟨wQ,trivial⟩) fun k1=>?_
  simp only[f174]
  rw[zA (Nat.le_of_ble_eq_true rfl)]
  simp(maxSteps:=400000) only[go_sem,↓zj,hbx,hn0,hn1,hn2,hn3,hn4,hn5,jh,Nat.zero_add,hix,Int.toNat_natCast,e1g]
  exact⟨⟨r,_,s,rfl,hr⟩,⟨by omega,by omega⟩,hKn _ (by omega)⟩
theorem qS {α:Type}{p i:Nat}{a b a' b':α}(h1:i=p→a=a')(h2:¬ i=p→b=b'):(if i=p then a else b)=if i=p then a' else b':=by
 split
 ·exact h1 ‹_›
 ·exact h2 ‹_›
theorem ziC {Γ:FuncId→Option Contract}{r0:Option Nat}{k0:K}{H:Heap}{ck:Nat}{Kn:V→Heap→Nat→Prop}(hX:(⟨prog,Γ,G0,r0,k0⟩:Cx).Ok){y:Lay}{r:Reg}{e:Ev}(hat:RegAt H y r)(hy:LayOk y ck)(hf:∀ l:Loc,ck < l.1→H l=none)
 (hr:RL r) (hv:e.vals.length=2) (hn:e.names.length=1) (hs:el e.names 0∈r.namesOf 102) (hKn:∀ ck',ck≤ck'→Kn (.tup []) (zx H y (zu levelE r e .match_)) ck') :
 zp ⟨prog,Γ,G0,r0,k0⟩ H ck 153 [.ptr y.box y.off,.agg (encEv e)] Kn:=by
 have hyo:=hy
 have hato:=hat
 obtain⟨box,pre,n0,n1,n2,n3,n4,n5⟩:=y
 have h0:=hy.hi box (by simp[Lay.locs])
 have h1:=hy.hi n2 (by simp[Lay.locs])
 have nd:=hy.nd
 simp only[Lay.locs,List.nodup_cons,List.mem_cons,List.not_mem_nil,or_false,not_or] at nd
 have a1:¬ box=n2:=by obtain⟨⟨b0,b1,b2,b3,b4,b5⟩,-⟩:=nd;exact b2
 have a1':¬ n2=box:=fun q=>a1 q.symm
 have hty:H n2=some (.arr r.flights.length 5 fun i=>zM (el r.flights i)):=hat.flights
 have hlt:zO (r.namesOf 102) (el e.names 0) < r.flights.length:=zU (f:=Fl.name) hs
 rcases hy.pre with q | ⟨u1,u2,q⟩
 ·have q:pre=[]:=q
  subst q
  have hbx:H box=some (.cells [.int .i64 r.day,.msl n0 0 r.types.length,.msl n1 0 r.houses.length,.msl n2 0 r.flights.length,.msl n3 0 r.maps.length,.msl n4 0 r.offers.length,.msl n5 0 r.complaints.length,.int .i64 r.fund]):=hat.box
  show zp _ H ck 153 [.ptr box 0,.agg (encEv e)] Kn
  refine zp.less (zp.inline hX func153 rfl zK (D:=D153) (by kernel_rfl) (tab [(zm 3,zG),(wi 9,zG)]) (zk ⟨za,za,trivial⟩) fun k1=>?_)
  simp only[f153]
  rw[zA (Nat.le_of_ble_eq_true rfl)]
  simp(maxSteps:=400000) only[go_sem,↓zj,encEv,zg,zh,hbx,hty,a1,a1']
  refine⟨by omega,RdQ.of (.eptr n2 r.flights.length 5 (zO (r.namesOf 102) (el e.names 0)) 0) rfl rfl rfl en151 (.inr ⟨_,_,_,_,_,rfl,.inl (by show n2.1 < ck+1+1+1;omega)⟩) (fun hX2=>zc6 hX2 hato (hyo.mono (ck':=ck+1+1+1) (by omega)) (fun l hl=>hf l (by have:ck+1+1+1 < l.1:=hl;omega)) hr hs fun ck' _=>⟨rfl,rfl⟩) ?_⟩
  simp(maxSteps:=400000) only[go_sem,↓zj,encEv,zg,zh,hbx,hty,a1,a1',zM]
  exact⟨by omega,_,jJ (r':=zu levelE r e .match_) hyo hato hf (by repeat (first | exact Chg.refl _ _ _ | refine Chg.mem ?_ (List.mem_cons_self ..) | refine Chg.mem ?_ (List.mem_cons_of_mem _ (List.mem_cons_self ..)) | refine Chg.new ?_ (by show ck < _;omega))) ((zc a1).trans (hbx.trans (congrArg (fun cs=>some (AObj.cells cs)) (by simp only[regCells,zu,List.length_modify];rfl))))
   ⟨_,zd _ _ _,yO (f:=zM) (l:=r.flights) (p:=zO (r.namesOf 102) (el e.names 0)) (h:=fun x=>{ x with heard:=e.vl 1 }) fun i hi=>qS (fun q=>by subst q;rfl) (fun q=>rfl)⟩ rfl rfl rfl rfl rfl,hKn _ (by omega)⟩
 ·have q:pre=[u1,u2]:=q
  subst q
  have hbx:H box=some (.cells [u1,u2,.int .i64 r.day,.msl n0 0 r.types.length,.msl n1 0 r.houses.length,.msl n2 0 r.flights.length,.msl n3 0 r.maps.length,.msl n4 0 r.offers.length,.msl n5 0 r.complaints.length,.int .i64 r.fund]):=hat.box
  show zp _ H ck 153 [.ptr box 2,.agg (encEv e)] Kn
  refine zp.less (zp.inline hX func153 rfl zK (D:=D153) (by kernel_rfl) (tab [(zm 3,zG),(wi 9,zG)]) (zk ⟨za,za,trivial⟩) fun k1=>?_)
  simp only[f153]
  rw[zA (Nat.le_of_ble_eq_true rfl)]
  simp(maxSteps:=400000) only[go_sem,↓zj,encEv,zg,zh,hbx,hty,a1,a1']
  refine⟨by omega,RdQ.of (.eptr n2 r.flights.length 5 (zO (r.namesOf 102) (el e.names 0)) 0) rfl rfl rfl en151 (.inr ⟨_,_,_,_,_,rfl,.inl (by show n2.1 < ck+1+1+1;omega)⟩) (fun hX2=>zc6 hX2 hato (hyo.mono (ck':=ck+1+1+1) (by omega)) (fun l hl=>hf l (by have:ck+1+1+1 < l.1:=hl;omega)) hr hs fun ck' _=>⟨rfl,rfl⟩) ?_⟩
  simp(maxSteps:=400000) only[go_sem,↓zj,encEv,zg,zh,hbx,hty,a1,a1',zM]
  exact⟨by omega,_,jJ (r':=zu levelE r e .match_) hyo hato hf (by repeat (first | exact Chg.refl _ _ _ | refine Chg.mem ?_ (List.mem_cons_self ..) | refine Chg.mem ?_ (List.mem_cons_of_mem _ (List.mem_cons_self ..)) | refine Chg.new ?_ (by show ck < _;omega))) ((zc a1).trans (hbx.trans (congrArg (fun cs=>some (AObj.cells cs)) (by simp only[regCells,zu,List.length_modify];rfl))))
   ⟨_,zd _ _ _,yO (f:=zM) (l:=r.flights) (p:=zO (r.namesOf 102) (el e.names 0)) (h:=fun x=>{ x with heard:=e.vl 1 }) fun i hi=>qS (fun q=>by subst q;rfl) (fun q=>rfl)⟩ rfl rfl rfl rfl rfl,hKn _ (by omega)⟩
theorem ziB {Γ:FuncId→Option Contract}{r0:Option Nat}{k0:K}{H:Heap}{ck:Nat}{Kn:V→Heap→Nat→Prop}(hX:(⟨prog,Γ,G0,r0,k0⟩:Cx).Ok){y:Lay}{r:Reg}{e:Ev}(hat:RegAt H y r)(hy:LayOk y ck)(hf:∀ l:Loc,ck < l.1→H l=none)
 (hr:RL r) (hv:e.vals.length=2) (hn:e.names.length=1) (hs:el e.names 0∈r.namesOf 116) (hKn:∀ ck',ck≤ck'→Kn (.tup []) (zx H y (zu levelE r e .correct)) ck') :
 zp ⟨prog,Γ,G0,r0,k0⟩ H ck 156 [.ptr y.box y.off,.agg (encEv e)] Kn:=by
 have hyo:=hy
 have hato:=hat
 obtain⟨box,pre,n0,n1,n2,n3,n4,n5⟩:=y
 have h0:=hy.hi box (by simp[Lay.locs])
 have h1:=hy.hi n0 (by simp[Lay.locs])
 have nd:=hy.nd
 simp only[Lay.locs,List.nodup_cons,List.mem_cons,List.not_mem_nil,or_false,not_or] at nd
 have a1:¬ box=n0:=by obtain⟨⟨b0,b1,b2,b3,b4,b5⟩,-⟩:=nd;exact b0
 have a1':¬ n0=box:=fun q=>a1 q.symm
 have hty:H n0=some (.arr r.types.length 3 fun i=>wg (el r.types i)):=hat.types
 have hlt:zO (r.namesOf 116) (el e.names 0) < r.types.length:=zU (f:=Ty.name) hs
 rcases hy.pre with q | ⟨u1,u2,q⟩
 ·have q:pre=[]:=q
  subst q
  have hbx:H box=some (.cells [.int .i64 r.day,.msl n0 0 r.types.length,.msl n1 0 r.houses.length,.msl n2 0 r.flights.length,.msl n3 0 r.maps.length,.msl n4 0 r.offers.length,.msl n5 0 r.complaints.length,.int .i64 r.fund]):=hat.box
  show zp _ H ck 156 [.ptr box 0,.agg (encEv e)] Kn
  refine zp.less (zp.inline hX func156 rfl zK (D:=D156) (by kernel_rfl) (tab [(zm 3,zG),(wi 9,zG)]) (zk ⟨za,za,trivial⟩) fun k1=>?_)
  simp only[f156]
  rw[zA (Nat.le_of_ble_eq_true rfl)]
  simp(maxSteps:=400000) only[go_sem,↓zj,encEv,zg,zh,hbx,hty,a1,a1']
  refine⟨by omega,RdQ.of (.eptr n0 r.types.length 3 (zO (r.namesOf 116) (el e.names 0)) 0) rfl rfl rfl en157 (.inr ⟨_,_,_,_,_,rfl,.inl (by show n0.1 < ck+1+1+1;omega)⟩) (fun hX2=>zft hX2 hato (hyo.mono (ck':=ck+1+1+1) (by omega)) (fun l hl=>hf l (by have:ck+1+1+1 < l.1:=hl;omega)) hr hs fun ck' _=>⟨rfl,rfl⟩) ?_⟩
  simp(maxSteps:=400000) only[go_sem,↓zj,encEv,zg,zh,hbx,hty,a1,a1',wg]
  exact⟨by omega,_,kK (r':=zu levelE r e .correct) hyo hato hf (by repeat (first | exact Chg.refl _ _ _ | refine Chg.mem ?_ (List.mem_cons_self ..) | refine Chg.mem ?_ (List.mem_cons_of_mem _ (List.mem_cons_self ..)) | refine Chg.new ?_ (by show ck < _;omega))) ((zc a1).trans (hbx.trans (congrArg (fun cs=>some (AObj.cells cs)) (by simp only[regCells,zu,List.length_modify];rfl))))
   ⟨_,zd _ _ _,yO (f:=wg) (l:=r.types) (p:=zO (r.namesOf 116) (el e.names 0)) (h:=fun x=>{ x with factor:=e.vl 1 }) fun i hi=>qS (fun q=>by subst q;rfl) (fun q=>rfl)⟩ rfl rfl rfl rfl rfl,hKn _ (by omega)⟩
 ·have q:pre=[u1,u2]:=q
  subst q
  have hbx:H box=some (.cells [u1,u2,.int .i64 r.day,.msl n0 0 r.types.length,.msl n1 0 r.houses.length,.msl n2 0 r.flights.length,.msl n3 0 r.maps.length,.msl n4 0 r.offers.length,.msl n5 0 r.complaints.length,.int .i64 r.fund]):=hat.box
  show zp _ H ck 156 [.ptr box 2,.agg (encEv e)] Kn
  refine zp.less (zp.inline hX func156 rfl zK (D:=D156) (by kernel_rfl) (tab [(zm 3,zG),(wi 9,zG)]) (zk ⟨za,za,trivial⟩) fun k1=>?_)
  simp only[f156]
  rw[zA (Nat.le_of_ble_eq_true rfl)]
  simp(maxSteps:=400000) only[go_sem,↓zj,encEv,zg,zh,hbx,hty,a1,a1']
  refine⟨by omega,RdQ.of (.eptr n0 r.types.length 3 (zO (r.namesOf 116) (el e.names 0)) 0) rfl rfl rfl en157 (.inr ⟨_,_,_,_,_,rfl,.inl (by show n0.1 < ck+1+1+1;omega)⟩) (fun hX2=>zft hX2 hato (hyo.mono (ck':=ck+1+1+1) (by omega)) (fun l hl=>hf l (by have:ck+1+1+1 < l.1:=hl;omega)) hr hs fun ck' _=>⟨rfl,rfl⟩) ?_⟩
  simp(maxSteps:=400000) only[go_sem,↓zj,encEv,zg,zh,hbx,hty,a1,a1',wg]
  exact⟨by omega,_,kK (r':=zu levelE r e .correct) hyo hato hf (by repeat (first | exact Chg.refl _ _ _ | refine Chg.mem ?_ (List.mem_cons_self ..) | refine Chg.mem ?_ (List.mem_cons_of_mem _ (List.mem_cons_self ..)) | refine Chg.new ?_ (by show ck < _;omega))) ((zc a1).trans (hbx.trans (congrArg (fun cs=>some (AObj.cells cs)) (by simp only[regCells,zu,List.length_modify];rfl))))
   ⟨_,zd _ _ _,yO (f:=wg) (l:=r.types) (p:=zO (r.namesOf 116) (el e.names 0)) (h:=fun x=>{ x with factor:=e.vl 1 }) fun i hi=>qS (fun q=>by subst q;rfl) (fun q=>rfl)⟩ rfl rfl rfl rfl rfl,hKn _ (by omega)⟩
theorem zfH {Γ:FuncId→Option Contract}{r0:Option Nat}{k0:K}{H:Heap}{ck:Nat}{Kn:V→Heap→Nat→Prop}(hX:(⟨prog,Γ,G0,r0,k0⟩:Cx).Ok){y:Lay}{r:Reg}{e:Ev}(hat:RegAt H y r)(hy:LayOk y ck)(hf:∀ l:Loc,ck < l.1→H l=none)
 (hr:RL r) (hv:e.vals.length=1) (hn:e.names.length=1) (hs:el e.names 0∈r.namesOf 99) (hKn:∀ ck',ck≤ck'→Kn (.tup []) (zx H y (zu levelE r e .dismiss)) ck') :
 zp ⟨prog,Γ,G0,r0,k0⟩ H ck 178 [.ptr y.box y.off,.agg (encEv e)] Kn:=by
 have hyo:=hy
 have hato:=hat
 obtain⟨box,pre,n0,n1,n2,n3,n4,n5⟩:=y
 have h0:=hy.hi box (by simp[Lay.locs])
 have h1:=hy.hi n5 (by simp[Lay.locs])
 have nd:=hy.nd
 simp only[Lay.locs,List.nodup_cons,List.mem_cons,List.not_mem_nil,or_false,not_or] at nd
 have a1:¬ box=n5:=by obtain⟨⟨b0,b1,b2,b3,b4,b5⟩,-⟩:=nd;exact b5
 have a1':¬ n5=box:=fun q=>a1 q.symm
 have hty:H n5=some (.arr r.complaints.length 6 fun i=>zP (el r.complaints i)):=hat.complaints
 have hlt:zO (r.namesOf 99) (el e.names 0) < r.complaints.length:=zU (f:=Co.name) hs
 rcases hy.pre with q | ⟨u1,u2,q⟩
 ·have q:pre=[]:=q
  subst q
  have hbx:H box=some (.cells [.int .i64 r.day,.msl n0 0 r.types.length,.msl n1 0 r.houses.length,.msl n2 0 r.flights.length,.msl n3 0 r.maps.length,.msl n4 0 r.offers.length,.msl n5 0 r.complaints.length,.int .i64 r.fund]):=hat.box
  show zp _ H ck 178 [.ptr box 0,.agg (encEv e)] Kn
  refine zp.less (zp.inline hX func178 rfl zK (D:=D178) (by kernel_rfl) (tab [(zm 3,zG),(wi 9,zG)]) (zk ⟨za,za,trivial⟩) fun k1=>?_)
  simp only[f178]
  rw[zA (Nat.le_of_ble_eq_true rfl)]
  simp(maxSteps:=400000) only[go_sem,↓zj,encEv,zg,zh,hbx,hty,a1,a1']
  refine⟨by omega,RdQ.of (.eptr n5 r.complaints.length 6 (zO (r.namesOf 99) (el e.names 0)) 0) rfl rfl rfl en174 (.inr ⟨_,_,_,_,_,rfl,.inl (by show n5.1 < ck+1+1+1;omega)⟩) (fun hX2=>vm hX2 hato (hyo.mono (ck':=ck+1+1+1) (by omega)) (fun l hl=>hf l (by have:ck+1+1+1 < l.1:=hl;omega)) hr hs fun ck' _=>⟨rfl,rfl⟩) ?_⟩
  simp(maxSteps:=400000) only[go_sem,↓zj,encEv,zg,zh,hbx,hty,a1,a1',zP]
  exact⟨by omega,_,yv (r':=zu levelE r e .dismiss) hyo hato hf (by repeat (first | exact Chg.refl _ _ _ | refine Chg.mem ?_ (List.mem_cons_self ..) | refine Chg.mem ?_ (List.mem_cons_of_mem _ (List.mem_cons_self ..)) | refine Chg.new ?_ (by show ck < _;omega))) ((zc a1).trans (hbx.trans (congrArg (fun cs=>some (AObj.cells cs)) (by simp only[regCells,zu,List.length_modify];rfl))))
   ⟨_,zd _ _ _,yO (f:=zP) (l:=r.complaints) (p:=zO (r.namesOf 99) (el e.names 0)) (h:=fun x=>{ x with answered:=e.vl 0 }) fun i hi=>qS (fun q=>by subst q;rfl) (fun q=>rfl)⟩ rfl rfl rfl rfl rfl,hKn _ (by omega)⟩
 ·have q:pre=[u1,u2]:=q
  subst q
  have hbx:H box=some (.cells [u1,u2,.int .i64 r.day,.msl n0 0 r.types.length,.msl n1 0 r.houses.length,.msl n2 0 r.flights.length,.msl n3 0 r.maps.length,.msl n4 0 r.offers.length,.msl n5 0 r.complaints.length,.int .i64 r.fund]):=hat.box
  show zp _ H ck 178 [.ptr box 2,.agg (encEv e)] Kn
  refine zp.less (zp.inline hX func178 rfl zK (D:=D178) (by kernel_rfl) (tab [(zm 3,zG),(wi 9,zG)]) (zk ⟨za,za,trivial⟩) fun k1=>?_)
  simp only[f178]
  rw[zA (Nat.le_of_ble_eq_true rfl)]
  simp(maxSteps:=400000) only[go_sem,↓zj,encEv,zg,zh,hbx,hty,a1,a1']
  refine⟨by omega,RdQ.of (.eptr n5 r.complaints.length 6 (zO (r.namesOf 99) (el e.names 0)) 0) rfl rfl rfl en174 (.inr ⟨_,_,_,_,_,rfl,.inl (by show n5.1 < ck+1+1+1;omega)⟩) (fun hX2=>vm hX2 hato (hyo.mono (ck':=ck+1+1+1) (by omega)) (fun l hl=>hf l (by have:ck+1+1+1 < l.1:=hl;omega)) hr hs fun ck' _=>⟨rfl,rfl⟩) ?_⟩
  simp(maxSteps:=400000) only[go_sem,↓zj,encEv,zg,zh,hbx,hty,a1,a1',zP]
  exact⟨by omega,_,yv (r':=zu levelE r e .dismiss) hyo hato hf (by repeat (first | exact Chg.refl _ _ _ | refine Chg.mem ?_ (List.mem_cons_self ..) | refine Chg.mem ?_ (List.mem_cons_of_mem _ (List.mem_cons_self ..)) | refine Chg.new ?_ (by show ck < _;omega))) ((zc a1).trans (hbx.trans (congrArg (fun cs=>some (AObj.cells cs)) (by simp only[regCells,zu,List.length_modify];rfl))))
   ⟨_,zd _ _ _,yO (f:=zP) (l:=r.complaints) (p:=zO (r.namesOf 99) (el e.names 0)) (h:=fun x=>{ x with answered:=e.vl 0 }) fun i hi=>qS (fun q=>by subst q;rfl) (fun q=>rfl)⟩ rfl rfl rfl rfl rfl,hKn _ (by omega)⟩
theorem zix {Γ:FuncId→Option Contract}{r0:Option Nat}{k0:K}{H:Heap}{ck:Nat}{Kn:V→Heap→Nat→Prop}(hX:(⟨prog,Γ,G0,r0,k0⟩:Cx).Ok){y:Lay}{r:Reg}{e:Ev}(hat:RegAt H y r)(hy:LayOk y ck)(hf:∀ l:Loc,ck < l.1→H l=none)
 (hr:RL r) (hv:e.vals.length=1) (hn:e.names.length=1) (hs:el e.names 0∈r.namesOf 111) (hfd:0≤r.fund∧r.fund≤1000000000000) (ham:0≤(el r.offers (zO (r.namesOf 111) (el e.names 0))).amount∧(el r.offers (zO (r.namesOf 111) (el e.names 0))).amount≤1000000000000) (hKn:∀ ck',ck≤ck'→Kn (.tup []) (zx H y (zu levelE r e .pay)) ck') :
 zp ⟨prog,Γ,G0,r0,k0⟩ H ck 170 [.ptr y.box y.off,.agg (encEv e)] Kn:=by
 have hyo:=hy
 have hato:=hat
 obtain⟨box,pre,n0,n1,n2,n3,n4,n5⟩:=y
 have h0:=hy.hi box (by simp[Lay.locs])
 have h1:=hy.hi n4 (by simp[Lay.locs])
 have nd:=hy.nd
 simp only[Lay.locs,List.nodup_cons,List.mem_cons,List.not_mem_nil,or_false,not_or] at nd
 have a1:¬ box=n4:=by obtain⟨⟨b0,b1,b2,b3,b4,b5⟩,-⟩:=nd;exact b4
 have a1':¬ n4=box:=fun q=>a1 q.symm
 have hty:H n4=some (.arr r.offers.length 4 fun i=>zX (el r.offers i)):=hat.offers
 have hlt:zO (r.namesOf 111) (el e.names 0) < r.offers.length:=zU (f:=Of.name) hs
 rcases hy.pre with q | ⟨u1,u2,q⟩
 ·have q:pre=[]:=q
  subst q
  have hbx:H box=some (.cells [.int .i64 r.day,.msl n0 0 r.types.length,.msl n1 0 r.houses.length,.msl n2 0 r.flights.length,.msl n3 0 r.maps.length,.msl n4 0 r.offers.length,.msl n5 0 r.complaints.length,.int .i64 r.fund]):=hat.box
  show zp _ H ck 170 [.ptr box 0,.agg (encEv e)] Kn
  refine zp.less (zp.inline hX func170 rfl zK (D:=D170) (by kernel_rfl) (tab [(zm 3,zG),(wi 10,zG)]) (zk ⟨za,za,trivial⟩) fun k1=>?_)
  simp only[f170]
  rw[zA (Nat.le_of_ble_eq_true rfl)]
  simp(maxSteps:=400000) only[go_sem,↓zj,encEv,zg,zh,hbx,hty,a1,a1']
  refine⟨by omega,.inl fun hX2=>zcU hX2 hato (hyo.mono (ck':=ck+1+1+1) (by omega)) (fun l hl=>hf l (by have:ck+1+1+1 < l.1:=hl;omega)) hr hs fun ck2 hck2=>?_⟩
  have f4:=fun d=>hf (ck2+1,d) (by show ck < ck2+1;omega)
  simp(maxSteps:=400000) only[go_sem,↓zj,encEv,zg,zh,hbx,hty,a1,a1',zX]
  exact⟨zn (by omega) (by omega),_,qE (r':=zu levelE r e .pay) hyo hato hf (by repeat (first | exact Chg.refl _ _ _ | refine Chg.mem ?_ (List.mem_cons_self ..) | refine Chg.mem ?_ (List.mem_cons_of_mem _ (List.mem_cons_self ..)) | refine Chg.new ?_ (by show ck < _;omega))) ((zd _ _ _).trans (congrArg (fun cs=>some (AObj.cells cs)) (by simp only[regCells,zu,List.length_modify];rfl)))
   ⟨_,(zc a1').trans (zd _ _ _),yO (f:=zX) (l:=r.offers) (p:=zO (r.namesOf 111) (el e.names 0)) (h:=fun x=>{ x with paid:=true }) fun i hi=>qS (fun q=>by subst q;rfl) (fun q=>rfl)⟩ rfl rfl rfl rfl rfl,hKn _ (by omega)⟩
 ·have q:pre=[u1,u2]:=q
  subst q
  have hbx:H box=some (.cells [u1,u2,.int .i64 r.day,.msl n0 0 r.types.length,.msl n1 0 r.houses.length,.msl n2 0 r.flights.length,.msl n3 0 r.maps.length,.msl n4 0 r.offers.length,.msl n5 0 r.complaints.length,.int .i64 r.fund]):=hat.box
  show zp _ H ck 170 [.ptr box 2,.agg (encEv e)] Kn
  refine zp.less (zp.inline hX func170 rfl zK (D:=D170) (by kernel_rfl) (tab [(zm 3,zG),(wi 10,zG)]) (zk ⟨za,za,trivial⟩) fun k1=>?_)
  simp only[f170]
  rw[zA (Nat.le_of_ble_eq_true rfl)]
  simp(maxSteps:=400000) only[go_sem,↓zj,encEv,zg,zh,hbx,hty,a1,a1']
  refine⟨by omega,.inl fun hX2=>zcU hX2 hato (hyo.mono (ck':=ck+1+1+1) (by omega)) (fun l hl=>hf l (by have:ck+1+1+1 < l.1:=hl;omega)) hr hs fun ck2 hck2=>?_⟩
  have f4:=fun d=>hf (ck2+1,d) (by show ck < ck2+1;omega)
  simp(maxSteps:=400000) only[go_sem,↓zj,encEv,zg,zh,hbx,hty,a1,a1',zX]
  exact⟨zn (by omega) (by omega),_,qE (r':=zu levelE r e .pay) hyo hato hf (by repeat (first | exact Chg.refl _ _ _ | refine Chg.mem ?_ (List.mem_cons_self ..) | refine Chg.mem ?_ (List.mem_cons_of_mem _ (List.mem_cons_self ..)) | refine Chg.new ?_ (by show ck < _;omega))) ((zd _ _ _).trans (congrArg (fun cs=>some (AObj.cells cs)) (by simp only[regCells,zu,List.length_modify];rfl)))
   ⟨_,(zc a1').trans (zd _ _ _),yO (f:=zX) (l:=r.offers) (p:=zO (r.namesOf 111) (el e.names 0)) (h:=fun x=>{ x with paid:=true }) fun i hi=>qS (fun q=>by subst q;rfl) (fun q=>rfl)⟩ rfl rfl rfl rfl rfl,hKn _ (by omega)⟩
theorem zfI {Γ:FuncId→Option Contract}{r0:Option Nat}{k0:K}{H:Heap}{ck:Nat}{Kn:V→Heap→Nat→Prop}(hX:(⟨prog,Γ,G0,r0,k0⟩:Cx).Ok){y:Lay}{r:Reg}{e:Ev}(hat:RegAt H y r)(hy:LayOk y ck)(hf:∀ l:Loc,ck < l.1→H l=none)
 (hr:RL r) (hv:e.vals.length=1) (hn:e.names.length=2) (hs:el e.names 0∈r.namesOf 99) (hKn:∀ ck',ck≤ck'→Kn (.tup []) (zx H y (zu levelE r e .answer)) ck') :
 zp ⟨prog,Γ,G0,r0,k0⟩ H ck 175 [.ptr y.box y.off,.agg (encEv e)] Kn:=by
 have hyo:=hy
 have hato:=hat
 obtain⟨box,pre,n0,n1,n2,n3,n4,n5⟩:=y
 have h0:=hy.hi box (by simp[Lay.locs])
 have h1:=hy.hi n5 (by simp[Lay.locs])
 have nd:=hy.nd
 simp only[Lay.locs,List.nodup_cons,List.mem_cons,List.not_mem_nil,or_false,not_or] at nd
 have a1:¬ box=n5:=by obtain⟨⟨b0,b1,b2,b3,b4,b5⟩,-⟩:=nd;exact b5
 have a1':¬ n5=box:=fun q=>a1 q.symm
 have hty:H n5=some (.arr r.complaints.length 6 fun i=>zP (el r.complaints i)):=hat.complaints
 have hlt:zO (r.namesOf 99) (el e.names 0) < r.complaints.length:=zU (f:=Co.name) hs
 rcases hy.pre with q | ⟨u1,u2,q⟩
 ·have q:pre=[]:=q
  subst q
  have hbx:H box=some (.cells [.int .i64 r.day,.msl n0 0 r.types.length,.msl n1 0 r.houses.length,.msl n2 0 r.flights.length,.msl n3 0 r.maps.length,.msl n4 0 r.offers.length,.msl n5 0 r.complaints.length,.int .i64 r.fund]):=hat.box
  show zp _ H ck 175 [.ptr box 0,.agg (encEv e)] Kn
  refine zp.less (zp.inline hX func175 rfl zK (D:=D175) (by kernel_rfl) (tab [(zm 3,zG),(wi 10,zG)]) (zk ⟨za,za,trivial⟩) fun k1=>?_)
  simp only[f175]
  rw[zA (Nat.le_of_ble_eq_true rfl)]
  simp(maxSteps:=400000) only[go_sem,↓zj,encEv,zg,zh,hbx,hty,a1,a1']
  refine⟨by omega,.inl fun hX2=>vm hX2 hato (hyo.mono (ck':=ck+1+1+1) (by omega)) (fun l hl=>hf l (by have:ck+1+1+1 < l.1:=hl;omega)) hr hs fun ck2 hck2=>?_⟩
  have f4:=fun d=>hf (ck2+1,d) (by show ck < ck2+1;omega)
  simp(maxSteps:=400000) only[go_sem,↓zj,encEv,zg,zh,hbx,hty,a1,a1',zP]
  exact⟨by omega,by omega,_,yv (r':=zu levelE r e .answer) hyo hato hf (by repeat (first | exact Chg.refl _ _ _ | refine Chg.mem ?_ (List.mem_cons_self ..) | refine Chg.mem ?_ (List.mem_cons_of_mem _ (List.mem_cons_self ..)) | refine Chg.new ?_ (by show ck < _;omega))) ((zc a1).trans ((zc a1).trans <| hbx.trans (congrArg (fun cs=>some (AObj.cells cs)) (by simp only[regCells,zu,List.length_modify];rfl))))
   ⟨_,zd _ _ _,yO (f:=zP) (l:=r.complaints) (p:=zO (r.namesOf 99) (el e.names 0)) (h:=fun x=>{ x with flight:=el e.names 1,answered:=e.vl 0 }) fun i hi=>qS (fun q=>by subst q;rfl) (fun q=>if_neg q)⟩ rfl rfl rfl rfl rfl,hKn _ (by omega)⟩
 ·have q:pre=[u1,u2]:=q
  subst q
  have hbx:H box=some (.cells [u1,u2,.int .i64 r.day,.msl n0 0 r.types.length,.msl n1 0 r.houses.length,.msl n2 0 r.flights.length,.msl n3 0 r.maps.length,.msl n4 0 r.offers.length,.msl n5 0 r.complaints.length,.int .i64 r.fund]):=hat.box
  show zp _ H ck 175 [.ptr box 2,.agg (encEv e)] Kn
  refine zp.less (zp.inline hX func175 rfl zK (D:=D175) (by kernel_rfl) (tab [(zm 3,zG),(wi 10,zG)]) (zk ⟨za,za,trivial⟩) fun k1=>?_)
  simp only[f175]
  rw[zA (Nat.le_of_ble_eq_true rfl)]
  simp(maxSteps:=400000) only[go_sem,↓zj,encEv,zg,zh,hbx,hty,a1,a1']
  refine⟨by omega,.inl fun hX2=>vm hX2 hato (hyo.mono (ck':=ck+1+1+1) (by omega)) (fun l hl=>hf l (by have:ck+1+1+1 < l.1:=hl;omega)) hr hs fun ck2 hck2=>?_⟩
  have f4:=fun d=>hf (ck2+1,d) (by show ck < ck2+1;omega)
  simp(maxSteps:=400000) only[go_sem,↓zj,encEv,zg,zh,hbx,hty,a1,a1',zP]
  exact⟨by omega,by omega,_,yv (r':=zu levelE r e .answer) hyo hato hf (by repeat (first | exact Chg.refl _ _ _ | refine Chg.mem ?_ (List.mem_cons_self ..) | refine Chg.mem ?_ (List.mem_cons_of_mem _ (List.mem_cons_self ..)) | refine Chg.new ?_ (by show ck < _;omega))) ((zc a1).trans ((zc a1).trans <| hbx.trans (congrArg (fun cs=>some (AObj.cells cs)) (by simp only[regCells,zu,List.length_modify];rfl))))
   ⟨_,zd _ _ _,yO (f:=zP) (l:=r.complaints) (p:=zO (r.namesOf 99) (el e.names 0)) (h:=fun x=>{ x with flight:=el e.names 1,answered:=e.vl 0 }) fun i hi=>qS (fun q=>by subst q;rfl) (fun q=>if_neg q)⟩ rfl rfl rfl rfl rfl,hKn _ (by omega)⟩
end Go.Fly.Tryz
end
