/- Part of a proof. No conditions. -/
import Derived.Test.YtkfbgillhhhdgaaGreatDoorSYOOL
import Derived.Test.YtkfbgillhhhdgaaGreatDoorAO
import Derived.Test.YtkfbgillhhhdgaaGreatDoorAP
set_option linter.unusedSimpArgs false
set_option linter.unusedVariables false
section
set_option maxRecDepth 100000
set_option maxHeartbeats 1000000
namespace Go.Fly.Tryz
open Go Off Go.Proofs.Tryz
theorem own_call {Γ:FuncId→Option Contract}{r0:Option Nat}{k0:K}{e:Ev}{Kn:V→Heap→Nat→Prop}(hX:(⟨prog,Γ,G0,r0,k0⟩:Cx).Ok)(h1:e.names.length≤1000000)(h2:e.vals.length≤1000000)
 (hKn:∀ r hp' ck',zo (frz 5 hp' r) (.agg (encEv e))→Kn r hp' ck') :
 zp ⟨prog,Γ,G0,r0,k0⟩ (fun _=>none) 1 138 [.agg (encEv e)] Kn:=by
 refine zp.inline hX func138 rfl zK (D:=D138) (by kernel_rfl) (tab []) (zk trivial) fun k1=>?_
 simp only[f138]
 rw[zA (Nat.le_of_ble_eq_true rfl)]
 simp(maxSteps:=400000) only[go_sem,↓zj,encEv,zg,zh]
 refine⟨⟨by omega,by omega,by omega,by omega⟩,⟨by omega,by omega,by omega,by omega⟩,hKn _ _ _ (zo.of_eq ?_)⟩
 simp(maxSteps:=400000) only[go_sem,↓zj,Nat.zero_add,zg,zh]
 rfl
theorem zlC:Holds prog G0 138 ownC:=by
 refine Holds.of_callT zw (fun _ _=>rfl) fun k0 rl args hX hpu hpre=>?_
 obtain⟨e,rfl,h1,h2⟩:=hpre
 show zp _ _ _ _ _ _
 refine own_call hX h1 h2 fun r hp' ck' h=>?_
 show zo _ (.agg (encEv (zI (cellsOf (.agg (encEv e))))))
 rw[zq,wH]
 exact h
theorem zlY {Γ:FuncId→Option Contract}{r0:Option Nat}{k0:K}{H:Heap}{ck:Nat}{Kn:V→Heap→Nat→Prop}(hX:(⟨prog,Γ,G0,r0,k0⟩:Cx).Ok){ln:Loc}{l:List Ev}
 (hl:H ln=some (.arr l.length 5 fun i=>encEv (el l i))) (hlo:ln.1≤ck) (hf:∀ l:Loc,ck < l.1→H l=none) (hc:Cnt levelE l) (hn:l.length≤1000)
 (hKn:∀ (y:Lay) (ck':Nat),y.pre=[]→(∀ l∈y.locs,ck < l.1)→LayOk y ck'→Kn (.agg (regCells y (made levelE l))) (zx H y (made levelE l)) ck') :
 zp ⟨prog,Γ,G0,r0,k0⟩ H ck 124 [.msl ln 0 l.length] Kn:=by
 have f1:=fun d=>hf (ck+1,d) (by show ck < ck+1;omega)
 have f2:=fun d=>hf (ck+1+1,d) (by show ck < ck+1+1;omega)
 have f3:=fun d=>hf (ck+1+1+1,d) (by show ck < ck+1+1+1;omega)
 have e2:=fun d=>yM (l:=ln) (ck:=ck) (c:=ck+1+1) (d:=d) hlo (by omega)
 have e3:=fun d=>yM (l:=ln) (ck:=ck) (c:=ck+1+1+1) (d:=d) hlo (by omega)
 refine zp.less (zp.inline hX func124 rfl zK (D:=D124) (by kernel_rfl) (tab [(zm 5,zG),(wi 13,zG)]) (zk ⟨za,za,trivial⟩) fun k1=>?_)
 simp only[f124]
 rw[zA (Nat.le_of_ble_eq_true rfl)]
 simp(maxSteps:=400000) only[go_sem,↓zj,hl,f1,f2,f3,e2,e3]
 refine⟨by omega,?_⟩
 generalize hH0:updH (updH H (ck+1+1,2) _) (ck+1+1+1,3) _=H0
 have hfr:∀ l:Loc,ck+1+1+1 < l.1→H0 l=none:=fun l hl=>by
  rw[← hH0,zc (by rintro rfl;exact Nat.lt_irrefl _ hl),zc (by rintro rfl;exact Nat.lt_irrefl _ (Nat.lt_trans (Nat.lt_succ_self _) hl))]
  exact hf l (by omega)
 have hH2:H0 (ck+1+1,2)=some (.cells [.int .i64 0,.nils,.nils,.nils,.nils,.nils,.nils,.int .i64 0]):=by
  rw[← hH0,zc (by simp),zd]
 have hHl:H0 ln=some (.arr l.length 5 fun i=>encEv (el l i)):=by
  rw[← hH0,zc (fun q=>by rw[e3] at q;exact q),zc (fun q=>by rw[e2] at q;exact q),hl]
 refine zB.ents (wu.reg0 (box:=(ck+1+1+1,3)) (by show 3 < 1000;decide) (by rw[← hH0,zd]) (fun i hi=>hfr _ (Nat.lt_succ_self _)) (fun l hl=>hfr l (Nat.lt_of_succ_lt hl)) (Nat.le_succ _)) ?_
 have hyk:LayOk (yo (ck+1+1+1,3) [] (ck+1+1+1+1)) (ck+1+1+1+1):=zbG (by show 3 < 1000;decide) (Nat.succ_pos _) (Nat.le_succ _) (.inl rfl)
 have hyn:∀ l∈(yo (ck+1+1+1,3) [] (ck+1+1+1+1)).locs,ck+1+1 < l.1:=fun l hl=>by
  simp only[Lay.locs,yo,List.mem_cons,List.not_mem_nil,or_false] at hl
  rcases hl with rfl | rfl | rfl | rfl | rfl | rfl | rfl <;> (show ck+1+1 < _;omega)
 have hyb:(yo (ck+1+1+1,3) [] (ck+1+1+1+1)).box=(ck+1+1+1,3):=rfl
 have hyp:(yo (ck+1+1+1,3) [] (ck+1+1+1+1)).pre=[]:=rfl
 generalize hy:yo (ck+1+1+1,3) [] (ck+1+1+1+1)=y at hyk hyn hyb hyp ⊢
 have hpb:∀ r,zx H0 y r (ck+1+1+1,3)=some (.cells (regCells y r)):=fun r=>by
  have:=(wA (H:=H0) hyk r).box
  rw[hyp,hyb] at this
  exact this
 have hyf:y.off=0:=by show y.pre.length=0;rw[hyp];rfl
 have hpl:∀ r,zx H0 y r ln=some (.arr l.length 5 fun i=>encEv (el l i)):=fun r=>by
  rw[z8 (fun q=>by have:=hyn _ q;omega),hHl]
 have hp2:∀ r,zx H0 y r (ck+1+1,2)=some (.cells [.int .i64 0,.nils,.nils,.nils,.nils,.nils,.nils,.int .i64 0]):=fun r=>by
  rw[z8 (fun q=>by have:=hyn _ q;exact Nat.lt_irrefl _ this),hH2]
 have hpf:∀ r l,ck+1+1+1+1 < l.1→zx H0 y r l=none:=fun r l hl=>by
  rw[z8 (fun q=>by have:=hyk.hi _ q;omega),hfr l (by omega)]
 refine zB.loopF (β:=Nat) [(5,5),(8,14)] (fun i=>[(8,.int .i64 i)]) (fun i=>zx H0 y (made levelE (l.take i))) (fun i=>i≤l.length) (fun i=>l.length - i) 0 (Nat.zero_le _) ?_ (zy.refl _) ?_
 ·simp(maxSteps:=400000) only[go_sem,↓zj]
  try exact rfl
 ·intro c i hck hi
  have hi:i≤l.length:=hi
  have g0:=fun r d=>hpf r (c,d) (by show ck+1+1+1+1 < c;omega)
  have g1:=fun r d=>hpf r (c+1,d) (by show ck+1+1+1+1 < c+1;omega)
  have g2:=fun r d=>hpf r (c+1+1,d) (by show ck+1+1+1+1 < c+1+1;omega)
  have g3:=fun r d=>hpf r (c+1+1+1,d) (by show ck+1+1+1+1 < c+1+1+1;omega)
  have l1:=fun d=>yM (l:=ln) (ck:=ck) (c:=c+1) (d:=d) hlo (by omega)
  have l2:=fun d=>yM (l:=ln) (ck:=ck) (c:=c+1+1) (d:=d) hlo (by omega)
  generalize hq0:exC _ _ _ _ _=gg
  by_cases hlt:i < l.length
  ·have hd:decide ((i:Int) < (l.length:Int))=true:=by simp;omega
   obtain⟨k,hk⟩:=hc i hlt
   rw[← hq0]
   clear hq0
   simp(maxSteps:=400000) only[go_sem,↓zj,hd,hpl,g0,g1,g2,g3,l1,l2,Nat.zero_add,encEv,zg,zh]
   refine⟨⟨by omega,by omega⟩,.inl fun hX2=>?_⟩
   have hS:=fun(S:Heap) (hS:∀ q,q≠(c+1+1,5)→S q=zx H0 y (made levelE (l.take i)) q)=>(wA (H:=H0) hyk (made levelE (l.take i))).upd (S:=S) fun q hl=>hS q (by rintro rfl;have:c+1+1≤ck+1+1+1+1:=hyk.hi _ hl;omega)
   have key:=fun(S:Heap) (Kn:V→Heap→Nat→Prop) (hS2:∀ q,q≠(c+1+1,5)→S q=zx H0 y (made levelE (l.take i)) q)=>zde (H:=S) (ck:=c+1+1+1) (Kn:=Kn) hX2 (hS S hS2) (hyk.mono (by omega)) (fun q hl=>(hS2 q (by rintro rfl;have:c+1+1+1 < c+1+1:=hl;omega)).trans (hpf _ q (by omega))) hk.kind hk.real (hk.pre (hc.good (by omega)))
   rw[hyb,hyf] at key
   have hon:∀ (S:Heap) (o:AObj),S=updH (updH (zx H0 y (made levelE (l.take i))) (c+1+1,5) o) (c+1+1,5) (.cells (encEv (el l i)))→∀ l',l'≠(c+1+1,5)→S l'=zx H0 y (made levelE (l.take i)) l':=fun S o h l' q=>by rw[h,zc q,zc q]
   refine key _ _ (hon _ _ rfl) fun ck2 hck2=>⟨zn (by omega) (by omega),by omega,i+1,hlt,by omega,rfl,?_⟩
   rw[vt _ _ hlt]
   exact Eq.mp (congrArg (zy _) (put_put H0 y (made levelE (l.take i)) (w9 levelE (made levelE (l.take i)) (el l i)))) (put_mono (zis (L:=(c+1+1,5)) (hpf _ _ (by show ck+1+1+1+1 < c+1+1;omega)) (hon _ _ rfl)))
  ·have hd:decide ((i:Int) < (l.length:Int))=false:=by simp;omega
   obtain rfl:i=l.length:=by omega
   rw[← hq0]
   clear hq0
   simp(maxSteps:=400000) only[go_sem,↓zj,hd,hp2,hpb,regCells]
   refine⟨zx H y (made levelE l),?_,?_⟩
   ·rw[List.take_length]
    intro l' o ho
    by_cases hl':l'∈y.locs
    ·refine⟨o,?_,ObjLe.refl o⟩
     rw[zc (by rintro rfl;exact Nat.lt_irrefl _ (hyn _ hl')),zlf (H':=H) hl']
     exact ho
    ·rw[z8 hl'] at ho
     have hlc:l'.1≤ck:=by
      apply Classical.byContradiction
      intro q
      rw[hf l' (by omega)] at ho
      cases ho
     refine⟨o,?_,ObjLe.refl o⟩
     rw[zc (by rintro rfl;have:_≤ck:=hlc;simp only at this;omega),z8 hl',← hH0,zc (by rintro rfl;have:_≤ck:=hlc;simp only at this;omega),zc (by rintro rfl;have:_≤ck:=hlc;simp only at this;omega)]
     exact ho
   ·rw[List.take_length]
    exact hKn y _ hyp (fun l hl=>by have:=hyn l hl;omega) (hyk.mono (by omega))
theorem evRow (e:Ev):∀ i,i < 1→∀ v,v∈wa (encEv e) 5 (0+i)→(Pu v∨jg v=true)∧jM v=true:=fun i hi v hv=>by
 rw[Nat.zero_add] at hv
 exact zgn (cells:=encEv e) rfl (fun v hv=>by
  simp only[encEv,List.mem_cons,List.not_mem_nil,or_false] at hv
  rcases hv with rfl | rfl | rfl | rfl | rfl
  ·exact⟨.inl (.int _ _),rfl⟩
  ·exact⟨.inl (.str _),rfl⟩
  ·exact⟨.inl ((qF _).2 trivial),rfl⟩
  ·exact⟨.inl ((jr _).2 trivial),rfl⟩
  ·exact⟨.inl (.str _),rfl⟩) i hi v hv
theorem ziX {Γ:FuncId→Option Contract}{r0:Option Nat}{k0:K}{H:Heap}{ck:Nat}{Kn:V→Heap→Nat→Prop}(hX:(⟨prog,Γ,G0,r0,k0⟩:Cx).Ok){y:Lay}{ne nc:Loc}{h:Hist}{e:Ev}
 (hat:HAt H y ne nc h) (hy:HLayOk y ne nc ck) (hf:∀ l:Loc,ck < l.1→H l=none) (ho:HOk levelE h) (hn:h.events.length≤1000) (he:eventE e=0) (ha:zT h e=0)
 (hKn:∀ H' y' nc' ck',y'.box=y.box→ck≤ck'→HAt H' y' ne nc' (kr levelE h e)→HLayOk y' ne nc' ck'→(∀ l:Loc,ck' < l.1→H' l=none)→(∀ l:Loc,l.1≤ck→l∉y.locs→l≠ne→l≠nc→H' l=H l)→Kn (.tup []) H' ck') :
 zp ⟨prog,Γ,G0,r0,k0⟩ H ck 131 [.ptr y.box 0,.agg (encEv e)] Kn:=by
 obtain⟨k,hk,hnm,hvl,hbd,-,-,hn1,hn2⟩:=jV he
 have hu:=zhj hk
 have hev:=hat.ev
 have hct:=hat.ct
 have hbx:H y.box=some (.cells (y.pre++regCells y h.now)):=hat.reg.box
 rw[hat.pre] at hbx
 simp only[regCells,List.cons_append,List.nil_append] at hbx
 have f1:=fun d=>hf (ck+1,d) (by show ck < ck+1;omega)
 have f2:=fun d=>hf (ck+1+1,d) (by show ck < ck+1+1;omega)
 have f3:=fun d=>hf (ck+1+1+1,d) (by show ck < ck+1+1+1;omega)
 have f4:=fun d=>hf (ck+1+1+1+1,d) (by show ck < ck+1+1+1+1;omega)
 have f5:=fun d=>hf (ck+1+1+1+1+1,d) (by show ck < ck+1+1+1+1+1;omega)
 have f6:=fun d=>hf (ck+1+1+1+1+1+1,d) (by show ck < ck+1+1+1+1+1+1;omega)
 have f7:=fun d=>hf (ck+1+1+1+1+1+1+1,d) (by show ck < ck+1+1+1+1+1+1+1;omega)
 have f8:=fun d=>hf (ck+1+1+1+1+1+1+1+1,d) (by show ck < ck+1+1+1+1+1+1+1+1;omega)
 have hb:=hy.lay.hi _ y.mem.1
 have a1:¬ y.box=ne:=fun q=>hy.ne_out (q ▸ y.mem.1)
 have a1':¬ ne=y.box:=fun q=>a1 q.symm
 have a2:¬ y.box=nc:=fun q=>hy.nc_out (q ▸ y.mem.1)
 have a2':¬ nc=y.box:=fun q=>a2 q.symm
 have a3:¬ ne=nc:=hy.ne_nc
 have a3':¬ nc=ne:=fun q=>a3 q.symm
 have b1:=fun c d (hc:ck < c)=>yM (l:=y.box) (ck:=ck) (c:=c) (d:=d) hb hc
 have b1':=fun c d (hc:ck < c)=>yL (l:=y.box) (ck:=ck) (c:=c) (d:=d) hb hc
 have b2:=fun c d (hc:ck < c)=>yM (l:=ne) (ck:=ck) (c:=c) (d:=d) hy.ne_lo hc
 have b2':=fun c d (hc:ck < c)=>yL (l:=ne) (ck:=ck) (c:=c) (d:=d) hy.ne_lo hc
 have b3:=fun c d (hc:ck < c)=>yM (l:=nc) (ck:=ck) (c:=c) (d:=d) hy.nc_lo hc
 have b3':=fun c d (hc:ck < c)=>yL (l:=nc) (ck:=ck) (c:=c) (d:=d) hy.nc_lo hc
 have c2:ck < ck+1+1:=by omega
 have c3:ck < ck+1+1+1:=by omega
 have c4:ck < ck+1+1+1+1:=by omega
 have c5:ck < ck+1+1+1+1+1:=by omega
 have c6:ck < ck+1+1+1+1+1+1:=by omega
 have c7:ck < ck+1+1+1+1+1+1+1:=by omega
 have c8:ck < ck+1+1+1+1+1+1+1+1:=by omega
 have hlen1:e.names.length≤1000000:=by rw[hnm];cases k <;> decide
 have hlen2:e.vals.length≤1000000:=by rw[hvl];cases k <;> decide
 by_cases cu:k=.undo
 ·rw[decide_eq_true cu] at hu
  refine zp.less (zp.inline hX func131 rfl zK (D:=D131) (by kernel_rfl) (tab [(138,ownC),(wi 55,zG),(wi 38,zG),(yJ 13,zG),(yJ 48,zG)]) (zk ⟨zlC,za,za,za,za,trivial⟩) fun k1=>?_)
  simp only[f131]
  rw[zA (Nat.le_of_ble_eq_true rfl)]
  simp(maxSteps:=400000) only[go_sem,↓zj,encEv,zg,zh,hbx,hev,hct,f1,f2,f3,f4,f5,f6,f7,f8,a1,a1',a2,a2',a3,a3',b1 _ _ c2,b1 _ _ c3,b1 _ _ c4,b1 _ _ c5,b1 _ _ c6,b1 _ _ c7,b1 _ _ c8,b1' _ _ c2,b1' _ _ c3,b1' _ _ c4,b1' _ _ c5,b1' _ _ c6,b1' _ _ c7,b1' _ _ c8,b2 _ _ c2,b2 _ _ c3,b2 _ _ c4,b2 _ _ c5,b2 _ _ c6,b2 _ _ c7,b2 _ _ c8,b2' _ _ c2,b2' _ _ c3,b2' _ _ c4,b2' _ _ c5,b2' _ _ c6,b2' _ _ c7,b2' _ _ c8,b3 _ _ c2,b3 _ _ c3,b3 _ _ c4,b3 _ _ c5,b3 _ _ c6,b3 _ _ c7,b3 _ _ c8,b3' _ _ c2,b3' _ _ c3,b3' _ _ c4,b3' _ _ c5,b3' _ _ c6,b3' _ _ c7,b3' _ _ c8,hu]
  have hrow:∀ (l:List Ev),ObjLe (.arr (l.length+1) 5 fun i=>if i < l.length then encEv (el l i) else wa (encEv e) 5 (0+(i - l.length))) (.arr (l++[e]).length 5 fun i=>encEv (el (l++[e]) i)):=fun l=>wK (f:=encEv) rfl fun j hj=>(vn (f:=encEv) (sz:=5) rfl rfl hj).trans (by rw[Nat.zero_add])
  have hel:∀ (l:List Ev),(l++[e]).length=l.length+1:=fun l=>by rw[List.length_append];rfl
  have h0:0 < h.counted.length:=by
   rcases vf he ha with⟨-,q⟩ | ⟨k',hk'⟩
   ·exact q
   ·have:=hk'.kind;rw[hk] at this;cases this;exact absurd cu hk'.real
  have hle:=ho.le
  have hdl:((h.counted.length:Int) - 1).toNat=h.counted.dropLast.length:=by rw[List.length_dropLast];omega
  rw[hdl]
  refine⟨⟨e,rfl,hlen1,hlen2⟩,⟨by omega,by omega,evRow e⟩,by omega,zn (by omega) (by omega),⟨by omega,by omega,by omega⟩,.inl fun hX2=>?_⟩
  have hy2:HLayOk y ne (ck+1+1+1+1+1+1+1,1000) (ck+1+1+1+1+1+1+1):=⟨hy.lay.mono (by omega),fun q=>by have:=hy.ne_lo;rw[q] at this;simp only at this;omega,hy.ne_out,fun q=>by have:=hy.lay.hi _ q;simp only at this;omega,by have:=hy.ne_lo;omega,Nat.le_refl _⟩
  have hcl:∀ c d,ck < c→((c,d):Loc)≠nc∧((c,d):Loc)≠ne∧((c,d):Loc)≠y.box:=fun c d hc=>⟨fun q=>by have:=hy.nc_lo;rw[← q] at this;simp only at this;omega,fun q=>by have:=hy.ne_lo;rw[← q] at this;simp only at this;omega,fun q=>by have:=hb;rw[← q] at this;simp only at this;omega⟩
  have hreg:RegAt (fun l=>if l=nc then none else H l) y h.now:=hat.reg.upd fun l hl=>if_neg (by rintro rfl;exact hy.nc_out hl)
  have hH2:=zlg (H:=fun l=>if l=nc then none else H l) hy2 (h.events++[e]) h.counted.dropLast h.now
  refine zp.pre (ck2:=ck+1+1+1+1+1+1+1+1) (hp2:=zhL (fun l=>if l=nc then none else H l) y ne (ck+1+1+1+1+1+1+1,1000) (h.events++[e]) h.counted.dropLast h.now) (args2:=[.msl (ck+1+1+1+1+1+1+1,1000) 0 h.counted.dropLast.length]) (fun k2=>wu.trans (wu.shrink (l:=nc) (l':=(ck+1+1+1+1+1+1+1,1000)) (l2:=y.box) (j:=1) (d:=0) a2 (Ne.symm (hcl _ _ c7).2.2) ((zc a2').trans <| (zc a2').trans <| (zc a3').trans <| (zc (Ne.symm (hcl _ _ c4).1)).trans <| (zc (Ne.symm (hcl _ _ c2).1)).trans <| (zc (Ne.symm (hcl _ _ c2).1)).trans hct) (by rw[List.length_dropLast];omega) ((zc (hcl _ _ c7).2.2).trans <| (zc (hcl _ _ c7).2.2).trans <| (zc (hcl _ _ c7).2.1).trans <| (zc (by simp)).trans <| (zc (by simp)).trans <| (zc (by simp)).trans (f7 _)) rfl (zd _ _ _) rfl rfl) (wu.go (wk _) ?_)) ?_
  ·refine hist_le2 (ck:=ck+1+1+1+1+1+1+1) hreg (hy.lay.mono (by omega)) hy.ne_out hy2.nc_out ((zd _ _ _).trans (congrArg (fun cs=>some (AObj.cells cs)) (by rw[hel];rfl))) ⟨_,(zc a1').trans <| (zc (Ne.symm (hcl _ _ c7).2.1)).trans <| (zc a3).trans <| (zc a1').trans <| (zc a1').trans (zd _ _ _),hrow h.events⟩ ⟨_,(zc (hcl _ _ c7).2.2).trans (zd _ _ _),by rw[List.length_dropLast];exact⟨rfl,rfl,fun i hi=>congrArg encEv (jY hi)⟩⟩ ?_
   intro l o hlo hnot
   simp only[List.mem_cons,List.not_mem_nil,or_false,not_or] at hnot
   have hlnc:l≠nc:=fun q=>by rw[if_pos q] at hlo;cases hlo
   rw[if_neg hlnc] at hlo
   have hlc:l.1≤ck:=by
    apply Classical.byContradiction
    intro q
    rw[hf l (by omega)] at hlo
    cases hlo
   have hfr:∀ c d,ck < c→l≠(c,d):=fun c d hc q=>by subst q;have:c≤ck:=hlc;omega
   exact(zc hnot.1).trans <| (zc hnot.2.2).trans <| (zc hlnc).trans <| (zc hnot.1).trans <| (zc hnot.1).trans <| (zc hnot.2.1).trans <| (zc (hfr _ _ c4)).trans <| (zc (hfr _ _ c2)).trans <| (zc (hfr _ _ c2)).trans hlo
  ·have hfree:∀ l:Loc,ck+1+1+1+1+1+1+1+1 < l.1→zhL (fun l=>if l=nc then none else H l) y ne (ck+1+1+1+1+1+1+1,1000) (h.events++[e]) h.counted.dropLast h.now l=none:=fun l hl=>zbM hy2 (fun l hl=>by
    show (if l=nc then none else H l)=none
    rw[hf l (by omega)];split <;> rfl) (by omega)
   refine zlY hX2 hH2.ct (Nat.le_succ _) hfree (by rw[List.dropLast_eq_take];exact ho.cnt.take _) (by rw[List.length_dropLast];omega) fun y2 ck2 hp2 hnew hok2=>?_
   have hck2:ck+1+1+1+1+1+1+1+1 < ck2:=Nat.lt_of_lt_of_le (hnew _ y2.mem.1) (hok2.hi _ y2.mem.1)
   obtain⟨u1,u2⟩:=undo_at (r:=made levelE h.counted.dropLast) (hy2.mono (Nat.le_succ _)) (Nat.le_of_lt hck2) hok2 hnew hH2.ev hH2.ct
   have hbx3:zx (zhL (fun l=>if l=nc then none else H l) y ne (ck+1+1+1+1+1+1+1,1000) (h.events++[e]) h.counted.dropLast h.now) y2 (made levelE h.counted.dropLast) y.box=some (.cells ([.msl ne 0 (h.events++[e]).length,.msl (ck+1+1+1+1+1+1+1,1000) 0 h.counted.dropLast.length]++regCells y h.now)):=(z8 (fun q=>by have:=hnew _ q;omega)).trans hH2.reg.box
   have hg2:∀ l:Loc,l.1≤ck→l∉y.locs→l≠ne→l≠nc→zx (zhL (fun l=>if l=nc then none else H l) y ne (ck+1+1+1+1+1+1+1,1000) (h.events++[e]) h.counted.dropLast h.now) y2 (made levelE h.counted.dropLast) l=H l:=fun l q1 q2 q3 q4 =>
    (z8 (fun q=>by have:=hnew _ q;omega)).trans ((zc (fun q=>by rw[q] at q1;simp only at q1;omega)).trans ((zc q3).trans ((z8 (y:={ y with pre:=[.msl ne 0 (h.events++[e]).length,.msl (ck+1+1+1+1+1+1+1,1000) 0 h.counted.dropLast.length] }) q2).trans (if_neg q4))))
   have hg:∀ l:Loc,ck2 < l.1→zx (zhL (fun l=>if l=nc then none else H l) y ne (ck+1+1+1+1+1+1+1,1000) (h.events++[e]) h.counted.dropLast h.now) y2 (made levelE h.counted.dropLast) l=none:=fun l hl=>(z8 (fun q=>by have:=hok2.hi l q;omega)).trans (hfree l (by omega))
   generalize zx (zhL (fun l=>if l=nc then none else H l) y ne (ck+1+1+1+1+1+1+1,1000) (h.events++[e]) h.counted.dropLast h.now) y2 (made levelE h.counted.dropLast)=H3 at hbx3 u1 hg hg2 ⊢
   simp only[regCells,List.cons_append,List.nil_append] at hbx3
   simp(maxSteps:=400000) only[go_sem,↓zj,hbx3,regCells]
   have hadd:kr levelE h e=⟨h.events++[e],h.counted.dropLast,made levelE h.counted.dropLast⟩:=by
    unfold kr
    rw[if_pos (by rw[hk,cu])]
   refine⟨_,zy.refl _,hKn _ ⟨y.box,[.msl ne 0 (h.events++[e]).length,.msl (ck+1+1+1+1+1+1+1,1000) 0 h.counted.dropLast.length],y2.n0,y2.n1,y2.n2,y2.n3,y2.n4,y2.n5⟩ (ck+1+1+1+1+1+1+1,1000) _ rfl (by omega) (by rw[hadd];exact u1) (u2.mono (Nat.le_succ _)) (fun l hl=>?_) fun l q1 q2 q3 q4=>(zc (fun q:l=y.box=>q2 (by rw[q];exact y.mem.1))).trans (hg2 l q1 q2 q3 q4)⟩
   refine(zc (fun q=>?_)).trans (hg l (by omega))
   rw[q] at hl
   omega
 ·rw[decide_eq_false cu] at hu
  refine zp.less (zp.inline hX func131 rfl zK (D:=D131) (by kernel_rfl) (tab [(138,ownC),(wi 55,zG),(wi 38,zG),(yJ 13,zG),(yJ 48,zG)]) (zk ⟨zlC,za,za,za,za,trivial⟩) fun k1=>?_)
  simp only[f131]
  rw[zA (Nat.le_of_ble_eq_true rfl)]
  simp(maxSteps:=400000) only[go_sem,↓zj,encEv,zg,zh,hbx,hev,hct,f1,f2,f3,f4,f5,f6,f7,f8,a1,a1',a2,a2',a3,a3',b1 _ _ c2,b1 _ _ c3,b1 _ _ c4,b1 _ _ c5,b1 _ _ c6,b1 _ _ c7,b1 _ _ c8,b1' _ _ c2,b1' _ _ c3,b1' _ _ c4,b1' _ _ c5,b1' _ _ c6,b1' _ _ c7,b1' _ _ c8,b2 _ _ c2,b2 _ _ c3,b2 _ _ c4,b2 _ _ c5,b2 _ _ c6,b2 _ _ c7,b2 _ _ c8,b2' _ _ c2,b2' _ _ c3,b2' _ _ c4,b2' _ _ c5,b2' _ _ c6,b2' _ _ c7,b2' _ _ c8,b3 _ _ c2,b3 _ _ c3,b3 _ _ c4,b3 _ _ c5,b3 _ _ c6,b3 _ _ c7,b3 _ _ c8,b3' _ _ c2,b3' _ _ c3,b3' _ _ c4,b3' _ _ c5,b3' _ _ c6,b3' _ _ c7,b3' _ _ c8,hu]
  have hrow:∀ (l:List Ev),ObjLe (.arr (l.length+1) 5 fun i=>if i < l.length then encEv (el l i) else wa (encEv e) 5 (0+(i - l.length))) (.arr (l++[e]).length 5 fun i=>encEv (el (l++[e]) i)):=fun l=>wK (f:=encEv) rfl fun j hj=>(vn (f:=encEv) (sz:=5) rfl rfl hj).trans (by rw[Nat.zero_add])
  have hel:∀ (l:List Ev),(l++[e]).length=l.length+1:=fun l=>by rw[List.length_append];rfl
  refine⟨⟨e,rfl,hlen1,hlen2⟩,⟨by omega,by omega,?_⟩,⟨by have:=ho.le;omega,by have:=ho.le;omega,?_⟩,.inl fun hX2=>?_⟩
  ·exact evRow e
  ·exact evRow e
  ·rcases vf he ha with⟨hk2,-⟩ | ⟨k',hk'⟩
   ·rw[hk] at hk2;cases hk2;exact absurd rfl cu
   have hkk:k'=k:=by have:=hk'.kind;rw[hk] at this;cases this;rfl
   subst hkk
   refine zp.pre (hp2:=zhL H y ne nc (h.events++[e]) (h.counted++[e]) h.now) (ck2:=ck+1+1+1+1+1+1+1+1) (args2:=[.ptr y.box 2,.agg (encEv e)]) (fun k2=>wu.go (wk _) ?_) ?_
   ·refine hist_le hat hy hf ((zd _ _ _).trans (congrArg (fun cs=>some (AObj.cells cs)) (by rw[hel,hel];rfl))) ⟨_,(zc a1').trans <| (zc a3).trans <| (zc (fun q=>by rw[b2 _ _ c6] at q;exact q)).trans <| (zc a1').trans (zd _ _ _),hrow h.events⟩ ⟨_,(zc a2').trans (zd _ _ _),hrow h.counted⟩ ?_
    intro l h1 h2
    simp only[List.mem_cons,List.not_mem_nil,or_false,not_or] at h2
    have hfr:∀ c d,ck < c→l≠(c,d):=fun c d hc q=>by subst q;have:c≤ck:=h1;omega
    rw[zc h2.1,zc h2.2.2,zc (hfr _ _ c6),zc h2.1,zc h2.2.1,zc (hfr _ _ c4),zc (hfr _ _ c2),zc (hfr _ _ c2)]
   ·have hy1:HLayOk { y with pre:=[.msl ne 0 (h.events++[e]).length,.msl nc 0 (h.counted++[e]).length] } ne nc ck:=hy.withPre _ _
    have hA:=zlg (H:=H) hy (h.events++[e]) (h.counted++[e]) h.now
    refine zde (y:={ y with pre:=[.msl ne 0 (h.events++[e]).length,.msl nc 0 (h.counted++[e]).length] }) hX2 hA.reg (hy1.lay.mono (by omega)) (fun l hl=>zbM hy hf (by omega)) hk cu (hk'.pre ho.good) fun ck' hck'=>⟨_,zy.refl _,?_⟩
    refine hKn _ { y with pre:=[.msl ne 0 (h.events++[e]).length,.msl nc 0 (h.counted++[e]).length] } nc _ rfl (by omega) ?_ (hy1.mono (by omega)) (fun l hl=>?_) (fun l q1 q2 q3 q4=>(z8 (y:={ y with pre:=[.msl ne 0 (h.events++[e]).length,.msl nc 0 (h.counted++[e]).length] }) q2).trans ((zc q4).trans ((zc q3).trans (z8 (y:={ y with pre:=[.msl ne 0 (h.events++[e]).length,.msl nc 0 (h.counted++[e]).length] }) q2))))
    ·have hadd:kr levelE h e=⟨h.events++[e],h.counted++[e],w9 levelE h.now e⟩:=by
      unfold kr
      rw[if_neg (by rw[hk];simp only[Option.some.injEq];exact cu)]
     rw[hadd]
     exact⟨wA hy1.lay _,rfl,(z8 hy1.ne_out).trans hA.ev,(z8 hy1.nc_out).trans hA.ct⟩
    ·rw[z8 (y:={ y with pre:=[.msl ne 0 (h.events++[e]).length,.msl nc 0 (h.counted++[e]).length] }) (fun q=>by have:=hy.lay.hi l q;omega)]
     exact zbM hy hf (by omega)
end Go.Fly.Tryz
end
