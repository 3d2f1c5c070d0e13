/- Part of a proof. No conditions. -/
import Derived.Test.YtkfbgillhhhdgaaGreatDoorSYORJ
import Derived.Test.YtkfbgillhhhdgaaGreatDoorSYOR0
import Derived.Test.YtkfbgillhhhdgaaGreatDoorAY
set_option linter.unusedSimpArgs false
set_option linter.unusedVariables false
section
set_option maxRecDepth 100000
set_option maxHeartbeats 1000000
namespace Go.Fly.Tryz
open Go Off Go.Proofs.Tryz
theorem told8 {i:Nat}(hi:i < 8):wa [V.int .i64 1,.str [116,121,112,101],zg [[106,101,116]],zh [1,100000000],.str [],.int .i64 2,.str [104,111,117,115,101],zg [[97]],zh [1,500],.str [],.int .i64 3,.str [104,111,117,115,101],zg [[98]],zh [1,1],.str [],
 .int .i64 4,.str [102,108,105,103,104,116],zg [[102],[106,101,116]],zh [2,10],.str [],.int .i64 5,.str [102,108,105,103,104,116],zg [[103],[106,101,116]],zh [2,20],.str [],.int .i64 6,.str [102,108,105,103,104,116],zg [[104],[106,101,116]],zh [2,30],.str [],
 .int .i64 7,.str [112,117,98,108,105,115,104],zg [[109]],zh [3],.str [],.int .i64 8,.str [102,117,110,100],zg [],zh [3,900],.str []] 5 i=encEv (el wE i):=by
 have:i=0∨i=1∨i=2∨i=3∨i=4∨i=5∨i=6∨i=7:=by omega
 rcases this with rfl | rfl | rfl | rfl | rfl | rfl | rfl | rfl <;> rfl
theorem zhl {Γ:FuncId→Option Contract}{r0:Option Nat}{k0:K}{ck:Nat}(hX:(⟨prog,Γ,G0,r0,k0⟩:Cx).Ok){v:V}(hv:evsA v){Kn:V→Heap→Nat→Prop}
 (hKn:∀ L ck',ck < L.1→L.1≤ck'→Kn (.msl L 0 (wE++zi zI v).length) (updH (fun _=>none) L (.arr (wE++zi zI v).length 5 fun i=>encEv (el (wE++zi zI v) i))) ck') :
 zp ⟨prog,Γ,G0,r0,k0⟩ (fun _=>none) ck 76 [v] Kn:=by
 have hln:=evsA_len hv
 refine zp.less ?_
 have hJ:∀ (L:Loc) (H:Heap) (ck' N:Nat) (get:Nat→List V),N=(wE++zi zI v).length→H L=some (.arr N 5 get)→(∀ i,i < N→encEv (el (wE++zi zI v) i)=get i)→ck < L.1→L.1≤ck' →
  (fun(r:V) (hp':Heap) (ck':Nat)=>∃ hp2,zy hp' hp2∧Kn r hp2 (ck'+1)) (.msl L 0 N) H ck':=fun L H ck' N get hN hL hg h1 h2=>by
  subst hN
  exact⟨_,zy.arr1 hL rfl rfl hg,hKn L (ck'+1) h1 (by omega)⟩
 generalize (fun(r:V) (hp':Heap) (ck':Nat)=>∃ hp2,zy hp' hp2∧Kn r hp2 (ck'+1))=J at hJ ⊢
 refine zp.inline hX func76 rfl zK (D:=D76) (by kernel_rfl) (tab [(77,zjE),(78,zcE),(zm 3,zG),(zm 5,zG),(zm 7,zG),(zm 9,zG),(zm 11,zG),(zm 13,zG),(zm 15,zG),(zm 17,zG),(zm 19,zG),(zm 21,zG),(zm 23,zG),(zm 25,zG),(zm 27,zG),(zm 29,zG),(zm 31,zG)]) (zk ⟨zc0,zbZ,za,za,za,za,za,za,za,za,za,za,za,za,za,za,za,trivial⟩) fun k1=>?_
 simp only[f76]
 rw[zA (Nat.le_of_ble_eq_true rfl)]
 rcases hv with rfl | ⟨n,a,rfl,hn,ha⟩
 ·simp(maxSteps:=400000) only[go_sem,↓zj,↓reduceIte,encEv]
  repeat (first
   | refine⟨⟨⟨_,_,rfl,zas⟩,.inl zas.pu⟩,?_⟩
   | refine⟨⟨⟨_,_,rfl,zew⟩,.inl zew.pu⟩,?_⟩
   | refine⟨⟨⟨_,_,_,_,rfl,zdp,zau⟩,.inl jP.pu⟩,?_⟩
   | refine⟨⟨⟨_,_,_,_,rfl,zdp,zat⟩,.inl vZ.pu⟩,?_⟩
   | refine⟨⟨⟨_,_,_,_,rfl,zdo,zat⟩,.inl vZ.pu⟩,?_⟩
   | refine⟨⟨⟨_,_,_,_,rfl,zdq,zat⟩,.inl vZ.pu⟩,?_⟩)
  exact hJ _ _ _ _ _ rfl (zd _ _ _) (fun i hi=>by rw[if_pos hi,ziQ,List.append_nil];exact(told8 hi).symm) (by show ck < ck+1+1+1;omega) (Nat.le_refl _)
 ·simp(maxSteps:=400000) only[go_sem,↓zj,↓reduceIte,encEv]
  repeat (first
   | refine⟨⟨⟨_,_,rfl,zas⟩,.inl zas.pu⟩,?_⟩
   | refine⟨⟨⟨_,_,rfl,zew⟩,.inl zew.pu⟩,?_⟩
   | refine⟨⟨⟨_,_,_,_,rfl,zdp,zau⟩,.inl jP.pu⟩,?_⟩
   | refine⟨⟨⟨_,_,_,_,rfl,zdp,zat⟩,.inl vZ.pu⟩,?_⟩
   | refine⟨⟨⟨_,_,_,_,rfl,zdo,zat⟩,.inl vZ.pu⟩,?_⟩
   | refine⟨⟨⟨_,_,_,_,rfl,zdq,zat⟩,.inl vZ.pu⟩,?_⟩)
  have hn8:(wE++zi zI (.sl n 5 a)).length=8+n:=by
   rw[List.length_append]
   simp[zi,wE]
  refine⟨⟨by omega,by omega,fun i hi v hv=>by rw[ha i hi] at hv;exact⟨.inl ((yC _) v hv).1,((yC _) v hv).2⟩⟩,hJ _ _ _ _ _ hn8.symm (zd _ _ _) (fun i hi=>zhk ha wE i hi _ fun i hi=>told8 hi) (by show ck < ck+1+1+1;omega) (Nat.le_refl _)⟩
theorem zij:Holds prog G0 76 (zgb wE):=by
 refine Holds.of_callT zw (fun _ _=>rfl) fun k0 rl args hX hpu hpre=>?_
 obtain⟨v,rfl,hv⟩:=hpre
 refine zhl hX hv fun L ck' _ _=>?_
 show zo _ (zf 5 encEv (wE++zi zI v))
 generalize wE++zi zI v=l
 simp(maxSteps:=100000) only[go_sem,↓zj,↓reduceIte,Nat.zero_add]
 exact kx fun i hi=>qh _
theorem zbr {Γ:FuncId→Option Contract}{r0:Option Nat}{k0:K}{ck:Nat}(hX:(⟨prog,Γ,G0,r0,k0⟩:Cx).Ok){v:V}{m:List Ev}{N:Nat}(hm:wE++zi zI v=m)(hN:m.length=N)(hv:evsA v){Kn:V→Heap→Nat→Prop}
 (hKn:∀ L ck',ck < L.1→L.1≤ck'→Kn (.msl L 0 N) (updH (fun _=>none) L (.arr N 5 fun i=>encEv (el m i))) ck') :
 zp ⟨prog,Γ,G0,r0,k0⟩ (fun _=>none) ck 76 [v] Kn:=by
 subst hm
 subst hN
 exact zhl hX hv hKn
theorem lMtch_ok:Holds prog G0 81 (zgb vr):=by
 refine Holds.of_exC D81 func81 rfl zK (by kernel_rfl) (tab [(76,zgb wE),(77,zjE),(78,zcE),(zm 3,zG),(zm 5,zG),(zm 7,zG),(zm 9,zG),(zm 11,zG),(zm 13,zG),(zm 15,zG),(wi 16,zG)]) (zk ⟨zij,zc0,zbZ,za,za,za,za,za,za,za,za,trivial⟩) zw fun k0 rl args hpu hpre=>?_
 unfold zgb at hpre ⊢
 obtain⟨v,rfl,hv⟩:=hpre
 simp only[zE]
 rcases hv with rfl | ⟨n,a,rfl,hn,ha⟩
 ·simp only[f81]
  rw[zb (Nat.le_of_ble_eq_true rfl)]
  simp(maxSteps:=4000000) only[go_sem,↓zj,↓zC,↓zJ,↓reduceIte,encEv]
  repeat (first
   | refine⟨⟨⟨_,_,rfl,zas⟩,.inl zas.pu⟩,?_⟩
   | refine⟨⟨⟨_,_,_,_,rfl,zdp,zat⟩,.inl vZ.pu⟩,?_⟩)
  refine .inl fun hX2=>wh (hp2:=fun _=>none) zy.none (wk _) (zbr (m:=vr) (N:=11) hX2 rfl rfl (.inr ⟨3,_,rfl,by omega,fun i hi=>?_⟩) fun L ck' h1 h2=>?_)
  ·have:i=0∨i=1∨i=2:=by omega
   rcases this with rfl | rfl | rfl <;> rfl
  simp(maxSteps:=400000) only[go_sem,↓zj,↓zC,↓zJ,↓reduceIte]
  refine kx (l:=vr) fun i hi=>?_
  have hi:i < 11:=hi
  rw[Nat.zero_add,if_pos hi,ww (yC _).pu]
  exact qh _
 ·simp only[f81]
  rw[zb (Nat.le_of_ble_eq_true rfl)]
  simp(maxSteps:=4000000) only[go_sem,↓zj,↓zC,↓zJ,↓reduceIte,encEv]
  repeat (first
   | refine⟨⟨⟨_,_,rfl,zas⟩,.inl zas.pu⟩,?_⟩
   | refine⟨⟨⟨_,_,_,_,rfl,zdp,zat⟩,.inl vZ.pu⟩,?_⟩)
  refine .inl fun hX2=>wh (hp2:=fun _=>none) zy.none (wk _) (zbr (m:=vr) (N:=11) hX2 rfl rfl (.inr ⟨3,_,rfl,by omega,fun i hi=>?_⟩) fun L ck' h1 h2=>?_)
  ·have:i=0∨i=1∨i=2:=by omega
   rcases this with rfl | rfl | rfl <;> rfl
  simp(maxSteps:=400000) only[go_sem,↓zj,↓zC,↓zJ,↓reduceIte]
  have hl:(vr++zi zI (.sl n 5 a)).length=11+n:=by
   rw[List.length_append]
   simp[zi,vr,wE]
  rw[if_pos (Nat.zero_add _)]
  refine⟨⟨by omega,by omega,fun i hi v hv=>by rw[ha i hi] at hv;exact⟨.inl ((yC _) v hv).1,((yC _) v hv).2⟩⟩,?_⟩
  have hv2:=fun hh=>kx (l:=vr++zi zI (.sl n 5 a)) (get:=fun i=>yA (frz 4 (updH (updH (fun _=>none) L (.arr 11 5 fun i=>encEv (el vr i))) L (.arr (11+n) 5 fun i=>if i < 11 then encEv (el vr i) else a (i - 11)))) (if 0+i < 11 then encEv (el vr (0+i)) else a (0+i - 11))) hh
  rw[hl] at hv2
  refine hv2 fun i hi=>?_
  have e:=zhk ha vr i hi (fun i=>encEv (el vr i)) fun i _=>rfl
  have e:(if i < 11 then encEv (el vr i) else a (i - 11))=encEv (el (vr++zi zI (.sl n 5 a)) i):=e.symm
  rw[Nat.zero_add,e,ww (yC _).pu]
  exact qh _
theorem do_call {Γ:FuncId→Option Contract}{r0:Option Nat}{k0:K}{H:Heap}{ck:Nat}{Kn:V→Heap→Nat→Prop}(hX:(⟨prog,Γ,G0,r0,k0⟩:Cx).Ok){y:Lay}{ne nc:Loc}{h:Hist}{s w:Str}{ws:List Str}{k:Kd}{e:Ev}
 (hat:HAt H y ne nc h) (hy:HLayOk y ne nc ck) (hf:∀ q:Loc,ck < q.1→H q=none) (ho:HOk levelE h) (hn:h.events.length < 1000) (hs:s≠[]) (hl:s.length≤4096) (hsp:yn 32 s=w::ws) (hq:zhJ w=none) (hk:kindOf w=some k)
 (hev:evOf (h.events.length+1:Nat) (w::ws)=(e,true)) (htk:(⟨w::ws,false⟩:Tk).Ok) (hb:EvB e) (he:eventE e=0) (ha:zT h e=0)
 (hKn:∀ H' y' nc' ck',y'.box=y.box→ck≤ck'→HAt H' y' ne nc' (kr levelE h e)→HLayOk y' ne nc' ck'→(∀ l:Loc,ck' < l.1→H' l=none)→(∀ l:Loc,l.1≤ck→l∉y.locs→l≠ne→l≠nc→H' l=H l)→Kn (.tup [.str ([100,111,110,101,32]++Lib.itoa e.num),.int .i64 0]) H' ck') :
 zp ⟨prog,Γ,G0,r0,k0⟩ H ck 69 [.ptr y.box 0,.str s] Kn:=by
 have hbx:H y.box=some (.cells (y.pre++regCells y h.now)):=hat.reg.box
 rw[hat.pre] at hbx
 simp only[regCells,List.cons_append,List.nil_append] at hbx
 have hne:=hat.ev
 have f1:=fun d=>hf (ck+1,d) (by show ck < ck+1;omega)
 have f2:=fun d=>hf (ck+1+1,d) (by show ck < ck+1+1;omega)
 have f3:=fun d=>hf (ck+1+1+1,d) (by show ck < ck+1+1+1;omega)
 have f4:=fun d=>hf (ck+1+1+1+1,d) (by show ck < ck+1+1+1+1;omega)
 have f5:=fun d=>hf (ck+1+1+1+1+1,d) (by show ck < ck+1+1+1+1+1;omega)
 have f6:=fun d=>hf (ck+1+1+1+1+1+1,d) (by show ck < ck+1+1+1+1+1+1;omega)
 have f7:=fun d=>hf (ck+1+1+1+1+1+1+1,d) (by show ck < ck+1+1+1+1+1+1+1;omega)
 have f8:=fun d=>hf (ck+1+1+1+1+1+1+1+1,d) (by show ck < ck+1+1+1+1+1+1+1+1;omega)
 have f9:=fun d=>hf (ck+1+1+1+1+1+1+1+1+1,d) (by show ck < ck+1+1+1+1+1+1+1+1+1;omega)
 have f10:=fun d=>hf (ck+1+1+1+1+1+1+1+1+1+1,d) (by show ck < ck+1+1+1+1+1+1+1+1+1+1;omega)
 have f11:=fun d=>hf (ck+1+1+1+1+1+1+1+1+1+1+1,d) (by show ck < ck+1+1+1+1+1+1+1+1+1+1+1;omega)
 have f12:=fun d=>hf (ck+1+1+1+1+1+1+1+1+1+1+1+1,d) (by show ck < ck+1+1+1+1+1+1+1+1+1+1+1+1;omega)
 have f13:=fun d=>hf (ck+1+1+1+1+1+1+1+1+1+1+1+1+1,d) (by show ck < ck+1+1+1+1+1+1+1+1+1+1+1+1+1;omega)
 have f14:=fun d=>hf (ck+1+1+1+1+1+1+1+1+1+1+1+1+1+1,d) (by show ck < ck+1+1+1+1+1+1+1+1+1+1+1+1+1+1;omega)
 have f15:=fun d=>hf (ck+1+1+1+1+1+1+1+1+1+1+1+1+1+1+1,d) (by show ck < ck+1+1+1+1+1+1+1+1+1+1+1+1+1+1+1;omega)
 have f16:=fun d=>hf (ck+1+1+1+1+1+1+1+1+1+1+1+1+1+1+1+1,d) (by show ck < ck+1+1+1+1+1+1+1+1+1+1+1+1+1+1+1+1;omega)
 have f17:=fun d=>hf (ck+1+1+1+1+1+1+1+1+1+1+1+1+1+1+1+1+1,d) (by show ck < ck+1+1+1+1+1+1+1+1+1+1+1+1+1+1+1+1+1;omega)
 have f18:=fun d=>hf (ck+1+1+1+1+1+1+1+1+1+1+1+1+1+1+1+1+1+1,d) (by show ck < ck+1+1+1+1+1+1+1+1+1+1+1+1+1+1+1+1+1+1;omega)
 have f19:=fun d=>hf (ck+1+1+1+1+1+1+1+1+1+1+1+1+1+1+1+1+1+1+1,d) (by show ck < ck+1+1+1+1+1+1+1+1+1+1+1+1+1+1+1+1+1+1+1;omega)
 have f20:=fun d=>hf (ck+1+1+1+1+1+1+1+1+1+1+1+1+1+1+1+1+1+1+1+1,d) (by show ck < ck+1+1+1+1+1+1+1+1+1+1+1+1+1+1+1+1+1+1+1+1;omega)
 have f21:=fun d=>hf (ck+1+1+1+1+1+1+1+1+1+1+1+1+1+1+1+1+1+1+1+1+1,d) (by show ck < ck+1+1+1+1+1+1+1+1+1+1+1+1+1+1+1+1+1+1+1+1+1;omega)
 have f22:=fun d=>hf (ck+1+1+1+1+1+1+1+1+1+1+1+1+1+1+1+1+1+1+1+1+1+1,d) (by show ck < ck+1+1+1+1+1+1+1+1+1+1+1+1+1+1+1+1+1+1+1+1+1+1;omega)
 have hbk:=hy.lay.hi _ y.mem.1
 have b1:=fun c d (hc:ck < c)=>yM (l:=y.box) (ck:=ck) (c:=c) (d:=d) hbk hc
 have b1':=fun c d (hc:ck < c)=>yL (l:=y.box) (ck:=ck) (c:=c) (d:=d) hbk hc
 have b2:=fun c d (hc:ck < c)=>yM (l:=ne) (ck:=ck) (c:=c) (d:=d) hy.ne_lo hc
 have b2':=fun c d (hc:ck < c)=>yL (l:=ne) (ck:=ck) (c:=c) (d:=d) hy.ne_lo hc
 have c1:ck < ck+1:=by omega
 have c2:ck < ck+1+1:=by omega
 have c3:ck < ck+1+1+1:=by omega
 have c4:ck < ck+1+1+1+1:=by omega
 have c5:ck < ck+1+1+1+1+1:=by omega
 have c6:ck < ck+1+1+1+1+1+1:=by omega
 have c7:ck < ck+1+1+1+1+1+1+1:=by omega
 have c8:ck < ck+1+1+1+1+1+1+1+1:=by omega
 have c9:ck < ck+1+1+1+1+1+1+1+1+1:=by omega
 have c10:ck < ck+1+1+1+1+1+1+1+1+1+1:=by omega
 have c11:ck < ck+1+1+1+1+1+1+1+1+1+1+1:=by omega
 have c12:ck < ck+1+1+1+1+1+1+1+1+1+1+1+1:=by omega
 have c13:ck < ck+1+1+1+1+1+1+1+1+1+1+1+1+1:=by omega
 have c14:ck < ck+1+1+1+1+1+1+1+1+1+1+1+1+1+1:=by omega
 have c15:ck < ck+1+1+1+1+1+1+1+1+1+1+1+1+1+1+1:=by omega
 have c16:ck < ck+1+1+1+1+1+1+1+1+1+1+1+1+1+1+1+1:=by omega
 have c17:ck < ck+1+1+1+1+1+1+1+1+1+1+1+1+1+1+1+1+1:=by omega
 have c18:ck < ck+1+1+1+1+1+1+1+1+1+1+1+1+1+1+1+1+1+1:=by omega
 have c19:ck < ck+1+1+1+1+1+1+1+1+1+1+1+1+1+1+1+1+1+1+1:=by omega
 have c20:ck < ck+1+1+1+1+1+1+1+1+1+1+1+1+1+1+1+1+1+1+1+1:=by omega
 have c21:ck < ck+1+1+1+1+1+1+1+1+1+1+1+1+1+1+1+1+1+1+1+1+1:=by omega
 have c22:ck < ck+1+1+1+1+1+1+1+1+1+1+1+1+1+1+1+1+1+1+1+1+1+1:=by omega
 have e0:zv [err false 26,err false 25]=0:=rfl
 have e1:zv [err false 25,err false 5]=0:=rfl
 have hds:wL (.sl (ws.length+1) 1 fun i=>[V.str (el (w::ws) i)])=w::ws:=jZ (w::ws)
 have hde:zI [.int .i64 e.num,.str e.kind,.sl e.names.length 1 fun i=>[.str (el e.names i)],.sl e.vals.length 1 fun i=>[.int .i64 (el e.vals i)],.str e.text]=e:=wH e
 have hlow:∀ o1 o2 o3 o4 o5 o6 o7 o8 (q:Loc),q.1≤ck→(updH (updH (updH (updH (updH (updH (updH (updH H (ck+1+1+1+1,26) o1) (ck+1+1+1+1+1+1+1,8) o2) (ck+1+1+1+1+1+1+1,8) o3) (ck+1+1+1+1+1+1+1+1+1,10) o4) (ck+1+1+1+1+1+1+1+1+1,10) o5) (ck+1+1+1+1+1+1+1+1+1+1+1,12) o6) (ck+1+1+1+1+1+1+1+1+1+1+1,12) o7) (ck+1+1+1+1+1+1+1+1+1+1+1+1,82) o8) q=H q:=fun o1 o2 o3 o4 o5 o6 o7 o8 q hq=>by
  repeat rw[zc (by rintro rfl;simp only at hq;omega)]
 have hup:∀ o1 o2 o3 o4 o5 o6 o7 o8,HAt (updH (updH (updH (updH (updH (updH (updH (updH H (ck+1+1+1+1,26) o1) (ck+1+1+1+1+1+1+1,8) o2) (ck+1+1+1+1+1+1+1,8) o3) (ck+1+1+1+1+1+1+1+1+1,10) o4) (ck+1+1+1+1+1+1+1+1+1,10) o5) (ck+1+1+1+1+1+1+1+1+1+1+1,12) o6) (ck+1+1+1+1+1+1+1+1+1+1+1,12) o7) (ck+1+1+1+1+1+1+1+1+1+1+1+1,82) o8) y ne nc h:=fun o1 o2 o3 o4 o5 o6 o7 o8=>hat.upd fun q hq=>by
  have hq:q.1≤ck:=hq.elim (fun r=>hy.lay.hi _ r) fun r=>r.elim (fun r=>r ▸ hy.ne_lo) fun r=>r ▸ hy.nc_lo
  exact hlow _ _ _ _ _ _ _ _ q hq
 have hfr:∀ o1 o2 o3 o4 o5 o6 o7 o8 (q:Loc),ck+1+1+1+1+1+1+1+1+1+1+1+1 < q.1→(updH (updH (updH (updH (updH (updH (updH (updH H (ck+1+1+1+1,26) o1) (ck+1+1+1+1+1+1+1,8) o2) (ck+1+1+1+1+1+1+1,8) o3) (ck+1+1+1+1+1+1+1+1+1,10) o4) (ck+1+1+1+1+1+1+1+1+1,10) o5) (ck+1+1+1+1+1+1+1+1+1+1+1,12) o6) (ck+1+1+1+1+1+1+1+1+1+1+1,12) o7) (ck+1+1+1+1+1+1+1+1+1+1+1+1,82) o8) q=none:=fun o1 o2 o3 o4 o5 o6 o7 o8 q hq=>by
  repeat rw[zc (by rintro rfl;simp only at hq;omega)]
  exact hf q (by omega)
 have hfz:∀ o1 o2 o3 o4 o5 o6 o7 o8,frz 5 (updH (updH (updH (updH (updH (updH (updH (updH H (ck+1+1+1+1,26) o1) (ck+1+1+1+1+1+1+1,8) o2) (ck+1+1+1+1+1+1+1,8) o3) (ck+1+1+1+1+1+1+1+1+1,10) o4) (ck+1+1+1+1+1+1+1+1+1,10) o5) (ck+1+1+1+1+1+1+1+1+1+1+1,12) o6) (ck+1+1+1+1+1+1+1+1+1+1+1,12) o7) (ck+1+1+1+1+1+1+1+1+1+1+1+1,82) o8) (.ptr y.box 0)=.cptr (zz h):=fun o1 o2 o3 o4 o5 o6 o7 o8=>za3 2 (hup _ _ _ _ _ _ _ _)
 have hdh:jk (zf 5 encEv h.events::zf 5 encEv h.counted::zt h.now)=h:=jb h
 have ds:decide (s=[])=false:=decide_eq_false hs
 have dl:decide ((s.length:Int) > 4096)=false:=decide_eq_false (by omega)
 have dl2:decide ((4096:Int) < (s.length:Int))=false:=decide_eq_false (by omega)
 have dn:decide ((1000:Int)≤(h.events.length:Int))=false:=decide_eq_false (by omega)
 have hel:el (w::ws) 0=w:=rfl
 have hev1:evOf ((h.events.length:Int)+1) (w::ws)=(e,true):=by
  rw[← hev,Int.natCast_add]
  rfl
 refine zp.less (zp.inline hX func69 rfl zK (D:=D69) (by kernel_rfl) (tab [(86,yf),(84,w7),(127,zbB),(128,zbL quF),(83,wX vV y9),(130,za6),(18,za7),(95,ku),(111,ze4),(wi 104,zG)]) (zk ⟨wx,wB,zfw,zcV,zY,zi4,jt,jN,k8,za,trivial⟩) fun k1=>?_)
 simp only[f69]
 rw[zA (Nat.le_of_ble_eq_true rfl)]
 simp(maxSteps:=400000) only[go_sem,↓zj,↓zC,↓zJ,↓reduceIte,zg,zz,hbx,hne,f1,f2,f3,f4,f5,f6,f7,f8,f9,f10,f11,f12,f13,f14,f15,f16,f17,f18,f19,f20,f21,f22,b1 _ _ c1,b1 _ _ c2,b1 _ _ c3,b1 _ _ c4,b1 _ _ c5,b1 _ _ c6,b1 _ _ c7,b1 _ _ c8,b1 _ _ c9,b1 _ _ c10,b1 _ _ c11,b1 _ _ c12,b1 _ _ c13,b1 _ _ c14,b1 _ _ c15,b1 _ _ c16,b1 _ _ c17,b1 _ _ c18,b1 _ _ c19,b1 _ _ c20,b1 _ _ c21,b1 _ _ c22,b1' _ _ c1,b1' _ _ c2,b1' _ _ c3,b1' _ _ c4,b1' _ _ c5,b1' _ _ c6,b1' _ _ c7,b1' _ _ c8,b1' _ _ c9,b1' _ _ c10,b1' _ _ c11,b1' _ _ c12,b1' _ _ c13,b1' _ _ c14,b1' _ _ c15,b1' _ _ c16,b1' _ _ c17,b1' _ _ c18,b1' _ _ c19,b1' _ _ c20,b1' _ _ c21,b1' _ _ c22,b2 _ _ c1,b2 _ _ c2,b2 _ _ c3,b2 _ _ c4,b2 _ _ c5,b2 _ _ c6,b2 _ _ c7,b2 _ _ c8,b2 _ _ c9,b2 _ _ c10,b2 _ _ c11,b2 _ _ c12,b2 _ _ c13,b2 _ _ c14,b2 _ _ c15,b2 _ _ c16,b2 _ _ c17,b2 _ _ c18,b2 _ _ c19,b2 _ _ c20,b2 _ _ c21,b2 _ _ c22,b2' _ _ c1,b2' _ _ c2,b2' _ _ c3,b2' _ _ c4,b2' _ _ c5,b2' _ _ c6,b2' _ _ c7,b2' _ _ c8,b2' _ _ c9,b2' _ _ c10,b2' _ _ c11,b2' _ _ c12,b2' _ _ c13,b2' _ _ c14,b2' _ _ c15,b2' _ _ c16,b2' _ _ c17,b2' _ _ c18,b2' _ _ c19,b2' _ _ c20,b2' _ _ c21,b2' _ _ c22,ds,dl,dl2,dn,hsp,hel,hq,hk,hev1,e0,e1,he,ha,hds,hde,encEv,zh,hfz,hdh]
 refine⟨⟨s,32,rfl,by omega⟩,by omega,by omega,Nat.zero_add _,zn (by omega) (by omega),⟨_,w::ws,rfl,htk⟩,Nat.zero_add _,⟨e,rfl,hb⟩,⟨h,e,rfl,ho.pre (by omega),he⟩,.inl fun hX2=>wh (zy.refl _) (wk _) (ziX hX2 (hup _ _ _ _ _ _ _ _) (hy.mono (by omega)) (fun q hq=>hfr _ _ _ _ _ _ _ _ q (by omega)) ho (by omega) he ha fun H' y' nc' ck' q1 q2 q3 q4 q5 q6=>?_)⟩
 have hcell:=q6 (ck+1+1+1+1+1+1+1+1+1+1+1,12) (by show ck+1+1+1+1+1+1+1+1+1+1+1≤_;omega) (fun q=>by have:=hy.lay.hi _ q;simp only at this;omega) (fun q=>by have:=hy.ne_lo;rw[← q] at this;simp only at this;omega) (fun q=>by have:=hy.nc_lo;rw[← q] at this;simp only at this;omega)
 rw[zc (by simp),zd] at hcell
 simp(maxSteps:=400000) only[go_sem,↓zj,↓zC,↓zJ,↓reduceIte,hcell]
 have h64:=(RecOk.of he).num
 have hil:=jR h64
 refine⟨h64,by omega,?_⟩
 rw[inQ_ret2]
 exact⟨H',zy.refl _,hKn H' y' nc' (ck'+1+1) q1 (by omega) q3 (q4.mono (by omega)) (fun l hl=>q5 l (by omega)) fun l r1 r2 r3 r4=>(q6 l (by omega) r2 r3 r4).trans (hlow _ _ _ _ _ _ _ _ l r1)⟩
end Go.Fly.Tryz
end
