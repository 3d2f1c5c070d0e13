/- The reference of the office: events made into a register; what counts; a journal played again. -/
import Derived.Test.YtkfbgillhhhdgaaGreatDoorSYORU
import Derived.Test.YtkfbgillhhhdgaaGreatDoorBA
set_option linter.unusedSimpArgs false
set_option linter.unusedVariables false
set_option maxRecDepth 100000
set_option maxHeartbeats 1000000
namespace Go.Fly.Tryz
open Go Off Go.Proofs.Tryz
theorem rRun_ok:Holds prog G0 106 zdE:=by
 refine Holds.of_exC D106 func106 rfl zK (by kernel_rfl) (tab [(107,jq)]) (zk ⟨zbK,trivial⟩) zw fun k0 rl args hpu hpre=>?_
 unfold zdE at hpre ⊢
 obtain⟨l,n,get,rfl,hn,hg,hc,hl⟩:=hpre
 have hd0:=zb9 hn hg
 subst hn
 simp only[zE]
 rw[hd0]
 simp only[f106]
 rw[zb (Nat.le_of_ble_eq_true rfl)]
 simp(maxSteps:=4000000) only[go_sem,↓zj,↓reduceIte]
 refine zB.ents (wu.cellsV (l2:=(3,3)) (cs':=zt {}) (by exact rfl) zbb) ?_
 simp(maxSteps:=400000) only[go_sem,↓zj,↓reduceIte]
 refine zB.loopF (β:=Nat) [(4,16)] (fun i=>[(4,.int .i64 i)]) (fun i=>updH (updH (fun _=>none) (2,2) (.cells [.int .i64 0,.nils,.nils,.nils,.nils,.nils,.nils,.int .i64 0])) (3,3) (.cells (zt (made levelE (l.take i))))) (fun i=>i≤l.length) (fun i=>l.length - i) 0 (Nat.zero_le _) ?_ ?_ ?_
 ·simp(maxSteps:=400000) only[go_sem,↓zj]
  try exact rfl
 ·refine zy.upd (zy.upd zy.none ⟨_,?_,ObjLe.refl _⟩) ⟨_,zd _ _ _,ObjLe.refl _⟩
  repeat (first | exact zd _ _ _ | rw[zc (by simp)])
 ·intro ck i hck hi
  have hi:i≤l.length:=hi
  generalize hq0:exC _ _ _ _ _=gg
  by_cases hlt:i < l.length
  ·have hd:decide ((i:Int) < (l.length:Int))=true:=decide_eq_true (by omega)
   obtain⟨k,hk⟩:=hc i hlt
   have hgi:=hg i hlt
   have hde:zI [.int .i64 (el l i).num,.str (el l i).kind,zg (el l i).names,zh (el l i).vals,.str (el l i).text]=el l i:=wH _
   rw[← hq0]
   clear hq0
   simp(maxSteps:=400000) only[go_sem,↓zj,↓reduceIte,hd,Nat.zero_add,Nat.le_refl,hgi,encEv,hde]
   refine⟨⟨by omega,by omega⟩,⟨_,_,k,rfl,hc.good (by omega),hk⟩,zn (by omega) (by omega),by omega,i+1,hlt,by omega,rfl,?_⟩
   rw[vt _ _ hlt]
   refine zy.upd (zy.upd zy.none ⟨_,?_,ObjLe.refl _⟩) ⟨_,zd _ _ _,ObjLe.refl _⟩
   repeat (first | exact zd _ _ _ | rw[zc (by simp)])
  ·have hd:decide ((i:Int) < (l.length:Int))=false:=decide_eq_false (by omega)
   obtain rfl:i=l.length:=by omega
   rw[← hq0]
   clear hq0
   simp(maxSteps:=400000) only[go_sem,↓zj,↓reduceIte,hd,Nat.zero_add,Nat.le_refl]
   rw[List.take_length]
   exact zo.refl _
theorem run_call {Γ:FuncId→Option Contract}{r0:Option Nat}{k0:K}{H:Heap}{ck:Nat}{Kn:V→Heap→Nat→Prop}(hX:(⟨prog,Γ,G0,r0,k0⟩:Cx).Ok){l:List Ev}{L:Loc}{get:Nat→List V}
 (hL:H L=some (.arr l.length 5 get)) (hg:∀ i,i < l.length→get i=encEv (el l i)) (hf:∀ q:Loc,ck < q.1→H q=none) (hLc:L.1≤ck) (hc:Cnt levelE l) (hl:l.length≤1000000)
 (hKn:∀ ck',ck≤ck'→Kn (.agg (zt (made levelE l))) H ck') :
 zp ⟨prog,Γ,G0,r0,k0⟩ H ck 106 [.msl L 0 l.length] Kn:=by
 have f1:=fun d=>hf (ck+1,d) (by show ck < ck+1;omega)
 have f2:=fun d=>hf (ck+1+1,d) (by show ck < ck+1+1;omega)
 have f3:=fun d=>hf (ck+1+1+1,d) (by show ck < ck+1+1+1;omega)
 refine zp.less (zp.inline hX func106 rfl zK (D:=D106) (by kernel_rfl) (tab [(107,jq)]) (zk ⟨zbK,trivial⟩) fun k1=>?_)
 simp only[f106]
 rw[zA (Nat.le_of_ble_eq_true rfl)]
 simp(maxSteps:=400000) only[go_sem,↓zj,↓reduceIte,f1,f2,f3]
 refine zB.ents (wu.cellsV (l2:=(ck+1+1+1,3)) (cs':=zt {}) (by dsimp only;exact zd _ _ _) zbb) ?_
 simp(maxSteps:=400000) only[go_sem,↓zj,↓reduceIte]
 have n2:¬ L=(ck+1+1,2):=by rintro rfl;simp only at hLc;omega
 have n3:¬ L=(ck+1+1+1,3):=by rintro rfl;simp only at hLc;omega
 refine zB.loopF (β:=Nat) [(4,16)] (fun i=>[(4,.int .i64 i)]) (fun i=>updH (updH H (ck+1+1,2) (.cells [.int .i64 0,.nils,.nils,.nils,.nils,.nils,.nils,.int .i64 0])) (ck+1+1+1,3) (.cells (zt (made levelE (l.take i))))) (fun i=>i≤l.length) (fun i=>l.length - i) 0 (Nat.zero_le _) ?_ ?_ ?_
 ·simp(maxSteps:=400000) only[go_sem,↓zj]
  try exact rfl
 ·refine zy.upd ?_ ⟨_,zd _ _ _,ObjLe.refl _⟩
  rw[yV]
  exact zis (L:=(ck+1+1+1,3)) (by rw[zc (by simp)];exact f3 _) fun q hq=>zc hq
 ·intro c i hck hi
  have hi:i≤l.length:=hi
  generalize hq0:exC _ _ _ _ _=gg
  by_cases hlt:i < l.length
  ·have hd:decide ((i:Int) < (l.length:Int))=true:=decide_eq_true (by omega)
   obtain⟨k,hk⟩:=hc i hlt
   have hgi:=hg i hlt
   rw[← hq0]
   clear hq0
   simp(maxSteps:=400000) only[go_sem,↓zj,↓reduceIte,hd,Nat.zero_add,Nat.le_refl,n2,n3,hL,hgi]
   refine⟨⟨by omega,by omega⟩,⟨_,_,k,rfl,hc.good (by omega),hk⟩,zn (by omega) (by omega),by omega,i+1,hlt,by omega,rfl,?_⟩
   rw[vt _ _ hlt,yV]
   exact zy.refl _
  ·have hd:decide ((i:Int) < (l.length:Int))=false:=decide_eq_false (by omega)
   obtain rfl:i=l.length:=by omega
   rw[← hq0]
   clear hq0
   simp(maxSteps:=400000) only[go_sem,↓zj,↓reduceIte,hd,Nat.zero_add,Nat.le_refl,n2,n3,hL]
   rw[List.take_length]
   refine⟨H,zmq fun q o ho=>?_,hKn _ (by omega)⟩
   have hq:q.1≤ck:=by
    apply Classical.byContradiction
    intro z
    rw[hf q (by omega)] at ho
    cases ho
   repeat rw[zc (by rintro rfl;simp only at hq;omega)]
   exact ho
theorem zjk:Holds prog G0 27 qY:=by
 refine Holds.of_exC D27 func27 rfl zK (by kernel_rfl) (tab [(20,jp),(96,qi),(106,zdE),(107,jq),(wi 57,zG),(yJ 64,zG)]) (zk ⟨zbJ,zeT,rRun_ok,zbK,za,za,trivial⟩) zw fun k0 rl args hpu hpre=>?_
 unfold qY at hpre ⊢
 obtain⟨l,rfl,hl,hE⟩:=hpre
 simp only[zE,wF]
 by_cases c1:1000 < l.length
 ·have d1:decide ((1000:Int) < (l.length:Int))=true:=decide_eq_true (by omega)
  have hz:wz levelE l=({},0,5):=by unfold wz replayed;rw[if_pos c1];rfl
  rw[hz]
  simp only[f27]
  rw[zb (Nat.le_of_ble_eq_true rfl)]
  simp(maxSteps:=4000000) only[go_sem,↓zj,↓reduceIte,zf,d1]
  exact zo.tup ⟨zbF,zo.refl _,zo.refl _,trivial⟩
 ·have d1:decide ((1000:Int) < (l.length:Int))=false:=decide_eq_false (by omega)
  simp only[f27]
  rw[zb (Nat.le_of_ble_eq_true rfl)]
  simp(maxSteps:=4000000) only[go_sem,↓zj,↓reduceIte,zf,d1]
  refine zB.ents (wu.cellsV (l2:=(5,6)) (cs':=zt {}) (by exact rfl) zbb) ?_
  refine zB.ents (wu.nilArr (d:=5) (l:=(6,1000)) 5 (fun _=>[]) (by exact rfl) (by exact rfl) (by exact rfl)) ?_
  simp(maxSteps:=400000) only[go_sem,↓zj,↓reduceIte]
  refine zB.loopW (β:=Nat×Nat×Hist) 16 [(3,5),(7,9),(14,70)] (fun b=>[(5,.msl (b.2.1,1000) 0 b.2.2.counted.length),(7,.int .i64 b.1)])
   (fun b=>updH (updH (updH (fun _=>none) (2,2) (.cells [.int .i64 0,.nils,.nils,.nils,.nils,.nils,.nils,.int .i64 0])) (5,6) (.cells (zt b.2.2.now))) (b.2.1,1000) (.arr b.2.2.counted.length 5 fun j=>encEv (el b.2.2.counted j)))
   (fun c b=>b.1≤l.length∧b.2.1 < c∧HOk levelE b.2.2∧b.2.2.events.length=b.1∧replayL levelE {} l 0=replayL levelE b.2.2 (l.drop b.1) b.1) (fun b=>l.length - b.1) (0,6,{}) ⟨Nat.zero_le _,by decide,HOk.init,rfl,rfl⟩ ?_ ?_ ?_
  ·simp(maxSteps:=400000) only[go_sem,↓zj]
   try exact rfl
  ·refine zy.upd (zy.upd (zy.upd zy.none ⟨_,?_,ObjLe.refl _⟩) ⟨_,?_,ObjLe.refl _⟩) ⟨_,zd _ _ _,⟨rfl,rfl,fun i hi=>absurd hi (Nat.not_lt_zero i)⟩⟩
   all_goals repeat (first | exact zd _ _ _ | rw[zc (by simp)])
  ·rintro ck ⟨i,c0,h⟩ hck ⟨hi,hc0,hok,hev,heq⟩
   have hi:i≤l.length:=hi
   have hc0:c0 < ck:=hc0
   have hok:HOk levelE h:=hok
   have hev:h.events.length=i:=hev
   have heq:replayL levelE {} l 0=replayL levelE h (l.drop i) i:=heq
   have hcl:=hok.le
   generalize hq0:exW _ _ _ _ _ _=gg
   by_cases hlt:i < l.length
   ·have hd:decide ((i:Int) < (l.length:Int))=true:=decide_eq_true (by omega)
    have he:=hE _ (wd hlt)
    have hdr:l.drop i=el l i::l.drop (i+1):=by rw[yp _ hlt];exact List.drop_eq_getElem_cons hlt
    have hR0:replayed levelE l=replayL levelE h (el l i::l.drop (i+1)) i:=by unfold replayed;rw[if_neg c1,heq,hdr]
    have hhn:=zit hev (el l i)
    by_cases w1:eventE (el l i)=0
    ·have dw1:decide (eventE (el l i)=0)=true:=decide_eq_true w1
     by_cases w2:zT h (el l i)=0
     ·have dw2:decide (zT h (el l i)=0)=true:=decide_eq_true w2
      have hw:zv [eventE (el l i),zT h (el l i)]=0:=by simp[zv,w1,w2]
      have heq2:replayL levelE {} l 0=replayL levelE (kr levelE h (el l i)) (l.drop (i+1)) (i+1):=by
       rw[heq,hdr,replayL]
       simp only[hw]
       rfl
      have hev2:(kr levelE h (el l i)).events.length=i+1:=by
       rw[zaE,List.length_append,hev];rfl
      by_cases hk:kindOf (el l i).kind=some .undo
      ·have h0:0 < h.counted.length:=by
        rcases vf w1 w2 with⟨-,q⟩ | ⟨k,q⟩
        ·exact q
        ·have:=q.kind;rw[hk] at this;cases this;exact absurd rfl q.real
       have htn:((h.counted.length:Int) - 1).toNat=h.counted.dropLast.length:=by rw[List.length_dropLast];omega
       have hadd:kr levelE h (el l i)=⟨h.events++[el l i],h.counted.dropLast,made levelE h.counted.dropLast⟩:=by unfold kr;rw[if_pos hk]
       have hok2:=hok.add w1 w2
       rw[hadd] at hok2 hev2 heq2
       have hnw:¬ ((ck+1+1+1+1+1+1+1,1000):Loc)=(c0,1000):=by simp;omega
       have hnw':¬ ((c0,1000):Loc)=(ck+1+1+1+1+1+1+1,1000):=fun q=>hnw q.symm
       have du:decide ((el l i).kind=[117,110,100,111])=true:=decide_eq_true (zb6.1 hk)
       rw[← hq0]
       clear hq0
       simp(maxSteps:=400000) only[go_sem,↓zj,↓reduceIte,hd,zW (id:=6) (r:=16) (by decide),zW (id:=7) (r:=16) (by decide),zW (id:=8) (r:=16) (by decide),zW (id:=9) (r:=16) (by decide),zW (id:=10) (r:=16) (by decide),zW (id:=11) (r:=16) (by decide),zW (id:=12) (r:=16) (by decide),zW (id:=13) (r:=16) (by decide),zW (id:=14) (r:=16) (by decide),zW (id:=15) (r:=16) (by decide),zW (id:=17) (r:=16) (by decide),zW (id:=18) (r:=16) (by decide),Nat.zero_add,Nat.le_refl,dw1,hhn,dw2,du,htn]
       refine⟨⟨by omega,by omega⟩,⟨_,rfl,he⟩,⟨by omega,by omega⟩,⟨h.counted,h.now,i,el l i,rfl,by omega,by omega,hok.good,hok.heb,hok.anb,w1⟩,⟨by omega,by omega⟩,zn (by omega) (by omega),⟨by omega,by omega⟩,_,wu.shrinkT (l:=(c0,1000)) (l':=(ck+1+1+1+1+1+1+1,1000)) (n:=h.counted.length) (sz:=5) (get:=fun j=>encEv (el h.counted j)) (m:=h.counted.dropLast.length) (d:=5) (by dsimp only;exact zd _ _ _) (by rw[List.length_dropLast];omega) (by dsimp only;rw[zc hnw,zc (by simp),zc (by simp)]) (by exact rfl) (by exact rfl),?_⟩
       simp(maxSteps:=400000) only[go_sem,↓zj,↓reduceIte,Nat.zero_add,Nat.le_refl,hnw,hnw']
       refine .inl fun hX2=>run_call hX2 (l:=h.counted.dropLast) (get:=fun j=>encEv (el h.counted j)) (by exact zd _ _ _) (fun j hj=>(congrArg encEv (jY (by rw[List.length_dropLast] at hj;exact hj))).symm) (fun q hq=>?_) (by dsimp only;omega) (by rw[List.dropLast_eq_take];exact hok.cnt.take _) (by rw[List.length_dropLast];omega) fun c2 hc2=>?_
       ·repeat (first | rfl | rw[zc (by rintro rfl;simp only at hq;omega)])
       ·simp(maxSteps:=400000) only[go_sem,↓zj,↓reduceIte,Nat.zero_add,Nat.le_refl,hnw,hnw']
        refine⟨zn (by omega) (by omega),_,fun x y q=>q,by dsimp only;omega,(i+1,ck+1+1+1+1+1+1+1,⟨h.events++[el l i],h.counted.dropLast,made levelE h.counted.dropLast⟩),⟨hlt,by dsimp only;omega,hok2,hev2,heq2⟩,by show l.length - (i+1) < l.length - i;omega,?_,?_⟩
        ·simp(maxSteps:=400000) only[go_sem,↓zj,↓reduceIte]
         try exact rfl
        ·dsimp only
         refine zy.upd (zy.upd (zy.upd zy.none ⟨_,?_,ObjLe.refl _⟩) ⟨_,?_,ObjLe.refl _⟩) ⟨.arr h.counted.dropLast.length 5 (fun j=>encEv (el h.counted j)),?_,⟨rfl,rfl,fun j hj=>congrArg encEv (jY (by rw[List.length_dropLast] at hj;exact hj))⟩⟩
         all_goals repeat (first | exact zd _ _ _ | rw[zc (by simp)] | rw[zc hnw] | rw[zc hnw'])
      ·have du:decide ((el l i).kind=[117,110,100,111])=false:=decide_eq_false fun q=>hk (zb6.2 q)
       have hadd:kr levelE h (el l i)=⟨h.events++[el l i],h.counted++[el l i],w9 levelE h.now (el l i)⟩:=by unfold kr;rw[if_neg hk]
       have hok2:=hok.add w1 w2
       rw[hadd] at hok2 hev2 heq2
       obtain⟨k,hka⟩:∃ k,Acc h.now (el l i) k:=by
        rcases vf w1 w2 with⟨q,-⟩ | q
        ·exact absurd q hk
        ·exact q
       rw[← hq0]
       clear hq0
       simp(maxSteps:=400000) only[go_sem,↓zj,↓reduceIte,hd,zW (id:=6) (r:=16) (by decide),zW (id:=7) (r:=16) (by decide),zW (id:=8) (r:=16) (by decide),zW (id:=9) (r:=16) (by decide),zW (id:=10) (r:=16) (by decide),zW (id:=11) (r:=16) (by decide),zW (id:=12) (r:=16) (by decide),zW (id:=13) (r:=16) (by decide),zW (id:=14) (r:=16) (by decide),zW (id:=15) (r:=16) (by decide),zW (id:=17) (r:=16) (by decide),zW (id:=18) (r:=16) (by decide),Nat.zero_add,Nat.le_refl,dw1,hhn,dw2,du]
       refine⟨⟨by omega,by omega⟩,⟨_,rfl,he⟩,⟨by omega,by omega⟩,⟨h.counted,h.now,i,el l i,rfl,by omega,by omega,hok.good,hok.heb,hok.anb,w1⟩,⟨by omega,by omega⟩,⟨by omega,by omega⟩,fun v hv=>.inl ((yC _).pu v hv),⟨by omega,by omega,zdy rfl (yC (el l i))⟩,⟨by omega,by omega⟩,⟨_,_,k,rfl,hok.good,hka⟩,zn (by omega) (by omega),_,fun x y q=>q,by dsimp only;omega,(i+1,c0,⟨h.events++[el l i],h.counted++[el l i],w9 levelE h.now (el l i)⟩),⟨hlt,by dsimp only;omega,hok2,hev2,heq2⟩,by show l.length - (i+1) < l.length - i;omega,?_,?_⟩
       ·simp(maxSteps:=400000) only[go_sem,↓zj,↓reduceIte]
        rw[List.length_append]
        exact⟨rfl,rfl⟩
       ·dsimp only
        refine zy.upd (zy.upd (zy.upd zy.none ⟨_,?_,ObjLe.refl _⟩) ⟨_,?_,ObjLe.refl _⟩) ⟨.arr (h.counted.length+1) 5 (fun j=>if j < h.counted.length then encEv (el h.counted j) else wa (encEv (el l i)) 5 (j - h.counted.length)),?_,wK rfl fun j hj=>?_⟩
        all_goals try (repeat (first | exact zd _ _ _ | rw[zc (by simp)]))
        have q:=vn (f:=encEv) (sz:=5) (l:=h.counted) (x:=el l i) rfl rfl hj
        rw[Nat.zero_add] at q
        exact q
     ·have dw2:decide (zT h (el l i)=0)=false:=decide_eq_false w2
      rw[← hq0]
      clear hq0
      simp(maxSteps:=400000) only[go_sem,↓zj,↓reduceIte,hd,zW (id:=6) (r:=16) (by decide),zW (id:=7) (r:=16) (by decide),zW (id:=8) (r:=16) (by decide),zW (id:=9) (r:=16) (by decide),zW (id:=10) (r:=16) (by decide),zW (id:=11) (r:=16) (by decide),zW (id:=12) (r:=16) (by decide),zW (id:=13) (r:=16) (by decide),zW (id:=14) (r:=16) (by decide),zW (id:=15) (r:=16) (by decide),zW (id:=17) (r:=16) (by decide),zW (id:=18) (r:=16) (by decide),Nat.zero_add,Nat.le_refl,dw1,hhn,dw2]
      refine⟨⟨by omega,by omega⟩,⟨_,rfl,he⟩,⟨by omega,by omega⟩,⟨h.counted,h.now,i,el l i,rfl,by omega,by omega,hok.good,hok.heb,hok.anb,w1⟩,zn (by omega) (by omega),_,fun x y q=>q,?_⟩
      simp(maxSteps:=400000) only[go_sem,↓zj,↓reduceIte,Nat.zero_add,Nat.le_refl]
      have hw:zv [eventE (el l i),zT h (el l i)]=zT h (el l i):=by simp[zv,w1,w2]
      have hz:wz levelE l=({},i+1,zT h (el l i)):=by
       unfold wz
       rw[hR0]
       unfold replayL
       simp only[hw]
       rw[if_pos w2]
       simp only
       rw[if_pos w2]
      rw[hz]
      exact zo.tup ⟨zbF,zo.refl _,zo.refl _,trivial⟩
    ·have dw1:decide (eventE (el l i)=0)=false:=decide_eq_false w1
     rw[← hq0]
     clear hq0
     simp(maxSteps:=400000) only[go_sem,↓zj,↓reduceIte,hd,zW (id:=6) (r:=16) (by decide),zW (id:=7) (r:=16) (by decide),zW (id:=8) (r:=16) (by decide),zW (id:=9) (r:=16) (by decide),zW (id:=10) (r:=16) (by decide),zW (id:=11) (r:=16) (by decide),zW (id:=12) (r:=16) (by decide),zW (id:=13) (r:=16) (by decide),zW (id:=14) (r:=16) (by decide),zW (id:=15) (r:=16) (by decide),zW (id:=17) (r:=16) (by decide),zW (id:=18) (r:=16) (by decide),Nat.zero_add,Nat.le_refl,dw1]
     refine⟨⟨by omega,by omega⟩,⟨_,rfl,he⟩,zn (by omega) (by omega),_,fun x y q=>q,?_⟩
     simp(maxSteps:=400000) only[go_sem,↓zj,↓reduceIte,Nat.zero_add,Nat.le_refl]
     have hw:zv [eventE (el l i),zT h (el l i)]=eventE (el l i):=by simp[zv,w1]
     have hz:wz levelE l=({},i+1,eventE (el l i)):=by
      unfold wz
      rw[hR0]
      unfold replayL
      simp only[hw]
      rw[if_pos w1]
      simp only
      rw[if_pos w1]
     rw[hz]
     exact zo.tup ⟨zbF,zo.refl _,zo.refl _,trivial⟩
   ·have hd:decide ((i:Int) < (l.length:Int))=false:=decide_eq_false (by omega)
    obtain rfl:i=l.length:=by omega
    rw[← hq0]
    clear hq0
    simp(maxSteps:=400000) only[go_sem,↓zj,↓reduceIte,hd,zW (id:=6) (r:=16) (by decide),zW (id:=7) (r:=16) (by decide),zW (id:=8) (r:=16) (by decide),zW (id:=9) (r:=16) (by decide),zW (id:=10) (r:=16) (by decide),zW (id:=11) (r:=16) (by decide),zW (id:=12) (r:=16) (by decide),zW (id:=13) (r:=16) (by decide),zW (id:=14) (r:=16) (by decide),zW (id:=15) (r:=16) (by decide),zW (id:=17) (r:=16) (by decide),zW (id:=18) (r:=16) (by decide),Nat.zero_add,Nat.le_refl]
    refine⟨_,fun x y q=>q,?_⟩
    simp(maxSteps:=400000) only[go_sem,↓zj,↓reduceIte,Nat.zero_add,Nat.le_refl]
    have hR:replayed levelE l=(h,0,0):=by
     unfold replayed
     rw[if_neg c1,heq,List.drop_eq_nil_of_le (by omega)]
     rfl
    have hz:wz levelE l=(h.now,0,0):=by
     unfold wz
     rw[hR]
     rfl
    rw[hz]
    exact zo.refl _
end Go.Fly.Tryz
