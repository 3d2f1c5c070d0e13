/- Part of a proof. No conditions. -/
import Derived.Test.YtkfbgillhhhdgaaGreatDoorSYOOO
import Derived.Test.YtkfbgillhhhdgaaGreatDoorAP
import Derived.Test.YtkfbgillhhhdgaaGreatDoorAQ
set_option linter.unusedSimpArgs false
set_option linter.unusedVariables false
section
set_option maxRecDepth 100000
set_option maxHeartbeats 1000000
namespace Go.Fly.Tryz
open Go Off Go.Proofs.Tryz
structure RP where
 S:Heap
 y:Lay
 ne:Loc
 nc:Loc
 h:Hist
 i:Nat
structure RPInv (l:List Ev) (box:Loc) (c:Nat) (b:RP):Prop where
 at_:HAt b.S b.y b.ne b.nc b.h
 lay:HLayOk b.y b.ne b.nc c
 box:b.y.box=box
 free:∀ q:Loc,c≤q.1→b.S q=none
 ok:HOk levelE b.h
 ev:b.h.events.length=b.i
 le:b.i≤l.length
 eq:replayL levelE {} l 0=replayL levelE b.h (l.drop b.i) b.i
theorem zdB {Γ:FuncId→Option Contract}{r0:Option Nat}{k0:K}{H:Heap}{ck:Nat}{Kn:V→Heap→Nat→Prop}(hX:(⟨prog,Γ,G0,r0,k0⟩:Cx).Ok){l:List Ev}
 (hf:∀ q:Loc,ck < q.1→H q=none) (hl:l.length≤1000000) (hE:∀ e∈l,EvB e)
 (hKn:∀ S y ne nc ck' h n w,(h,n,w)=replayed levelE l→HAt S y ne nc h→HLayOk y ne nc ck'→HOk levelE h→(∀ q:Loc,ck' < q.1→S q=none)→Kn (.tup [.ptr y.box 0,.int .i64 n,.int .i64 w]) S ck') :
 zp ⟨prog,Γ,G0,r0,k0⟩ H ck 94 [zf 5 encEv l] Kn:=by
 have f1:=fun d=>hf (ck+1,d) (by show ck < ck+1;omega)
 have f2:=fun d=>hf (ck+1+1,d) (by show ck < ck+1+1;omega)
 have f3:=fun d=>hf (ck+1+1+1,d) (by show ck < ck+1+1+1;omega)
 refine zp.post (zp.inline hX func94 rfl zK (D:=D94) (by kernel_rfl) (tab [(18,za7),(95,ku),(zm 7,zG),(wi 37,zG)]) (zk ⟨jt,jN,za,za,trivial⟩) fun k1=>?_)
 simp only[f94]
 rw[zA (Nat.le_of_ble_eq_true rfl)]
 have hfr:∀ q:Loc,ck+1+1+1 < q.1→updH H (ck+1+1+1,10) (.cells [.nils,.nils,.int .i64 0,.nils,.nils,.nils,.nils,.nils,.nils,.int .i64 0]) q=none:=fun q hq=>by
  rw[zc (by rintro rfl;exact Nat.lt_irrefl _ hq)];exact hf q (by omega)
 have hst:=fun tm=>wu.hist (c:=ck+1+1+1+1+1) (tm:=tm) (box:=(ck+1+1+1,10)) (H:=updH H (ck+1+1+1,10) (.cells [.nils,.nils,.int .i64 0,.nils,.nils,.nils,.nils,.nils,.nils,.int .i64 0])) (by show 10 < 900;omega) (zd _ _ _) (fun i _=>hfr _ (by show ck+1+1+1 < ck+1+1+1+1+1;omega)) (fun q hq=>hfr q (by omega)) (by show ck+1+1+1≤_;omega) (Nat.succ_pos _)
 by_cases c1:1000 < l.length
 ·have d1:decide ((1000:Int) < (l.length:Int))=true:=decide_eq_true (by omega)
  simp(maxSteps:=400000) only[go_sem,↓zj,zf,f1,f2,f3,d1]
  obtain⟨S,y,h1,h2,h3,h4,h5⟩:=hst [.tup [.ptr (ck+1+1+1,10) 0,.int .i64 0,.int .i64 5]]
  have:=hKn S y _ _ (ck+1+1+1+1+1+1) {} 0 5 (by unfold replayed;rw[if_pos c1]) h3 (h4.mono (Nat.le_succ _)) HOk.init fun q hq=>h5 q (by omega)
  rw[h2] at this
  exact⟨_,S,_,fun k0=>h1 k0,this⟩
 ·have d1:decide ((1000:Int) < (l.length:Int))=false:=decide_eq_false (by omega)
  simp(maxSteps:=400000) only[go_sem,↓zj,zf,f1,f2,f3,d1]
  obtain⟨S,y,h1,h2,h3,h4,h5⟩:=hst _
  refine zB.ents (h1 _) ?_
  refine zB.loopG (β:=RP) [(2,4),(6,8),(17,38)] (fun b=>[(17,.int .i64 b.i)]) (fun b=>b.S) (fun c b=>RPInv l (ck+1+1+1,10) c b) (fun b=>l.length - b.i) ⟨S,y,(ck+1+1+1+1+1,900),(ck+1+1+1+1+1,901),{},0⟩ ⟨h3,h4.mono (by omega),h2,fun q hq=>h5 q (by omega),HOk.init,rfl,Nat.zero_le _,rfl⟩ ?_ (zy.refl _) ?_
  ·simp(maxSteps:=400000) only[go_sem,↓zj]
   try exact rfl
  ·intro c b hck hI
   obtain⟨S,y,ne,nc,h,i⟩:=b
   obtain⟨hat,hly,hbox,hfree,hok,hev,hle,heq⟩:=hI
   have hat:HAt S y ne nc h:=hat
   have hbox:y.box=(ck+1+1+1,10):=hbox
   have hev:h.events.length=i:=hev
   have hle:i≤l.length:=hle
   have hfree:∀ q:Loc,c≤q.1→S q=none:=hfree
   have hly:HLayOk y ne nc c:=hly
   have hok:HOk levelE h:=hok
   have heq:replayL levelE {} l 0=replayL levelE h (l.drop i) i:=heq
   have hfz:∀ o1 o2,frz 5 (updH (updH S (c+1+1,7) o1) (c+1+1,7) o2) (.ptr (ck+1+1+1,10) 0)=.cptr (zz h):=fun o1 o2=>by
    rw[← hbox]
    exact za3 2 (hat.upd fun q hq=>by
     have hq:q.1≤c:=hq.elim (fun r=>hly.lay.hi _ r) fun r=>r.elim (fun r=>r ▸ hly.ne_lo) fun r=>r ▸ hly.nc_lo
     rw[zc (by rintro rfl;have:c+1+1≤c:=hq;omega),zc (by rintro rfl;have:c+1+1≤c:=hq;omega)])
   have g0:=fun d=>hfree (c,d) (Nat.le_refl _)
   have g1:=fun d=>hfree (c+1,d) (by show c≤c+1;omega)
   have g2:=fun d=>hfree (c+1+1,d) (by show c≤c+1+1;omega)
   have g3:=fun d=>hfree (c+1+1+1,d) (by show c≤c+1+1+1;omega)
   have hup:∀ o1 o2,HAt (updH (updH S (c+1+1,7) o1) (c+1+1,7) o2) y ne nc h:=fun o1 o2=>hat.upd fun q hq=>by
    have hq:q.1≤c:=hq.elim (fun r=>hly.lay.hi _ r) fun r=>r.elim (fun r=>r ▸ hly.ne_lo) fun r=>r ▸ hly.nc_lo
    rw[zc (by rintro rfl;have:c+1+1≤c:=hq;omega),zc (by rintro rfl;have:c+1+1≤c:=hq;omega)]
   have hfu:∀ o1 o2 (q:Loc),c+1+1 < q.1→updH (updH S (c+1+1,7) o1) (c+1+1,7) o2 q=none:=fun o1 o2 q hq=>by
    rw[zc (by rintro rfl;exact Nat.lt_irrefl _ hq),zc (by rintro rfl;exact Nat.lt_irrefl _ hq)]
    exact hfree q (by omega)
   have hfin:∀ o1 o2 ck' (n:Nat) w,c+1+1≤ck'→(h,n,w)=replayed levelE l→Kn (.tup [.ptr (ck+1+1+1,10) 0,.int .i64 n,.int .i64 w]) (updH (updH S (c+1+1,7) o1) (c+1+1,7) o2) ck':=fun o1 o2 ck' n w hc hR=>by
    have:=hKn _ y ne nc ck' h n w hR (hup o1 o2) (hly.mono (by omega)) hok fun q hq=>hfu o1 o2 q (by omega)
    rw[hbox] at this
    exact this
   generalize hq0:exC _ _ _ _ _=gg
   by_cases hlt:i < l.length
   ·have hd:decide ((i:Int) < (l.length:Int))=true:=by simp;omega
    have he:=hE _ (wd hlt)
    have hdr:l.drop i=el l i::l.drop (i+1):=by rw[yp _ hlt];exact List.drop_eq_getElem_cons hlt
    have hR0:replayed levelE l=replayL levelE h (el l i::l.drop (i+1)) i:=by unfold replayed;rw[if_neg c1,heq,hdr]
    by_cases w1:eventE (el l i)=0
    ·have dw1:decide (eventE (el l i)=0)=true:=decide_eq_true w1
     by_cases w2:zT h (el l i)=0
     ·have dw2:decide (zT h (el l i)=0)=true:=decide_eq_true w2
      rw[← hq0]
      clear hq0
      simp(maxSteps:=400000) only[go_sem,↓zj,hd,g0,g1,g2,g3,Nat.zero_add,hfz,dw1,dw2,Bool.not_true,Bool.not_false,encEv,zg,zh]
      refine⟨⟨by omega,by omega⟩,⟨el l i,rfl,he⟩,⟨h,el l i,rfl,hok.pre (by omega),w1⟩,.inl fun hX2=>?_⟩
      have key:=fun o1 o2 ck0 (hc0:c+1+1≤ck0) (Kn:V→Heap→Nat→Prop)=>ziX (Kn:=Kn) (ck:=ck0) hX2 (hup o1 o2) (hly.mono (by omega)) (fun q hq=>hfu o1 o2 q (by omega)) hok (by omega) w1 w2
      rw[hbox] at key
      refine key _ _ _ (by omega) _ fun H' y' nc' ck' hb' hc' hat2 hly2 hfr2 _=>?_
      refine⟨zn (by omega) (by omega),by omega,⟨H',y',ne,nc',kr levelE h (el l i),i+1⟩,⟨hat2,hly2.mono (by omega),hb',fun q hq=>hfr2 q (by omega),hok.add w1 w2,?_,hlt,?_⟩,by show l.length - (i+1) < l.length - i;omega,rfl,zy.refl _⟩
      ·show (kr levelE h (el l i)).events.length=i+1
       rw[← hev]
       unfold kr
       split
       ·show (h.events++[_]).length=_
        rw[List.length_append];rfl
       ·show (h.events++[_]).length=_
        rw[List.length_append];rfl
      ·show replayL levelE {} l 0=replayL levelE (kr levelE h (el l i)) (l.drop (i+1)) (i+1)
       have hw:zv [eventE (el l i),zT h (el l i)]=0:=by simp[zv,w1,w2]
       rw[heq,hdr,replayL]
       simp only[hw]
       rfl
     ·have dw2:decide (zT h (el l i)=0)=false:=decide_eq_false w2
      rw[← hq0]
      clear hq0
      simp(maxSteps:=400000) only[go_sem,↓zj,hd,g0,g1,g2,g3,Nat.zero_add,hfz,dw1,dw2,Bool.not_true,Bool.not_false,encEv,zg,zh]
      refine⟨⟨by omega,by omega⟩,⟨el l i,rfl,he⟩,⟨h,el l i,rfl,hok.pre (by omega),w1⟩,zn (by omega) (by omega),_,fun x y q=>q,?_⟩
      simp(maxSteps:=400000) only[go_sem,↓zj]
      refine⟨_,_,_,fun k0=>fun x y q=>q,hfin _ _ _ (i+1) _ (by omega) ?_⟩
      have hw:zv [eventE (el l i),zT h (el l i)]=zT h (el l i):=by simp[zv,w1,w2]
      rw[hR0]
      unfold replayL
      simp only[hw]
      rw[if_pos w2]
    ·have dw1:decide (eventE (el l i)=0)=false:=decide_eq_false w1
     rw[← hq0]
     clear hq0
     simp(maxSteps:=400000) only[go_sem,↓zj,hd,g0,g1,g2,g3,Nat.zero_add,hfz,dw1,Bool.not_true,Bool.not_false,encEv,zg,zh]
     refine⟨⟨by omega,by omega⟩,⟨el l i,rfl,he⟩,zn (by omega) (by omega),_,fun x y q=>q,?_⟩
     simp(maxSteps:=400000) only[go_sem,↓zj]
     refine⟨_,_,_,fun k0=>fun x y q=>q,hfin _ _ _ (i+1) _ (by omega) ?_⟩
     have hw:zv [eventE (el l i),zT h (el l i)]=eventE (el l i):=by simp[zv,w1]
     rw[hR0]
     unfold replayL
     simp only[hw]
     rw[if_pos w1]
   ·have hd:decide ((i:Int) < (l.length:Int))=false:=by simp;omega
    rw[← hq0]
    clear hq0
    simp(maxSteps:=400000) only[go_sem,↓zj,hd]
    refine⟨_,fun x y q=>q,?_⟩
    simp(maxSteps:=400000) only[go_sem,↓zj]
    have hR:replayed levelE l=(h,0,0):=by
     unfold replayed
     rw[if_neg c1,heq,List.drop_eq_nil_of_le (by omega)]
     rfl
    have:=hKn S y ne nc (c+1+1) h 0 0 hR.symm hat (hly.mono (by omega)) hok fun q hq=>hfree q (by omega)
    rw[hbox] at this
    exact⟨_,_,_,fun k0=>fun x y q=>q,this⟩
theorem vq:Holds prog G0 94 zgp:=by
 refine Holds.of_callT zw (fun _ _=>rfl) fun k0 rl args hX hpu hpre=>?_
 obtain⟨l,rfl,h1,h2⟩:=hpre
 refine zdB hX (fun _ _=>rfl) h1 h2 fun S y ne nc ck' h n w hR hat hly hok hfr=>?_
 show zo _ (.tup [.cptr (zz (replayed levelE (zi zI (zf 5 encEv l))).1),.int .i64 (replayed levelE (zi zI (zf 5 encEv l))).2.1,.int .i64 (replayed levelE (zi zI (zf 5 encEv l))).2.2])
 rw[wF,← hR,zmu]
 refine zo.of_eq ?_
 simp only[List.map_cons,List.map_nil,za3 1 hat,v7 (.int _ _)]
theorem zaQ:Holds prog G0 21 je:=by
 refine Holds.of_exC D21 func21 rfl zK (by kernel_rfl) (tab [(18,za7),(84,w7),(86,yf),(94,zgp),(95,ku),(zm 3,zG)]) (zk ⟨jt,wB,wx,vq,jN,za,trivial⟩) zw fun k0 rl args hpu hpre=>?_
 unfold je at hpre ⊢
 obtain⟨l,e,rfl,hl,hE,he⟩:=hpre
 simp only[zE,zV,zq,wF,wH]
 by_cases c1:1000≤l.length
 ·have d1:decide ((1000:Int)≤(l.length:Int))=true:=decide_eq_true (by omega)
  have d2:decide (1000≤l.length)=true:=decide_eq_true (by omega)
  by_cases w:zv [(replayed levelE l).2.2,eventE e,err true 5]=0
  ·have dw:decide (zv [(replayed levelE l).2.2,eventE e,err true 5]=0)=true:=decide_eq_true w
   simp only[f21]
   rw[zb (Nat.le_of_ble_eq_true rfl)]
   simp(maxSteps:=4000000) only[go_sem,↓zj,zf,encEv,zg,zh,d1,dw,Bool.not_true]
   refine⟨⟨l,rfl,hl,hE⟩,⟨e,rfl,he⟩,⟨(replayed levelE l).1,e,rfl,zaH l,?_⟩,zo.of_eq ?_⟩
   ·rw[wb] at w;exact w _ (by simp)
   ·unfold wO;simp only[d2,w];rfl
  ·have dw:decide (zv [(replayed levelE l).2.2,eventE e,err true 5]=0)=false:=decide_eq_false w
   simp only[f21]
   rw[zb (Nat.le_of_ble_eq_true rfl)]
   simp(maxSteps:=4000000) only[go_sem,↓zj,zf,encEv,zg,zh,d1,dw,Bool.not_false]
   refine⟨⟨l,rfl,hl,hE⟩,⟨e,rfl,he⟩,zo.of_eq ?_⟩
   unfold wO;simp only[d2];rw[if_pos w]
 ·have d1:decide ((1000:Int)≤(l.length:Int))=false:=decide_eq_false (by omega)
  have d2:decide (1000≤l.length)=false:=decide_eq_false (by omega)
  by_cases w:zv [(replayed levelE l).2.2,eventE e,err false 5]=0
  ·have dw:decide (zv [(replayed levelE l).2.2,eventE e,err false 5]=0)=true:=decide_eq_true w
   simp only[f21]
   rw[zb (Nat.le_of_ble_eq_true rfl)]
   simp(maxSteps:=4000000) only[go_sem,↓zj,zf,encEv,zg,zh,d1,dw,Bool.not_true]
   refine⟨⟨l,rfl,hl,hE⟩,⟨e,rfl,he⟩,⟨(replayed levelE l).1,e,rfl,zaH l,?_⟩,zo.of_eq ?_⟩
   ·rw[wb] at w;exact w _ (by simp)
   ·unfold wO;simp only[d2,w];rfl
  ·have dw:decide (zv [(replayed levelE l).2.2,eventE e,err false 5]=0)=false:=decide_eq_false w
   simp only[f21]
   rw[zb (Nat.le_of_ble_eq_true rfl)]
   simp(maxSteps:=4000000) only[go_sem,↓zj,zf,encEv,zg,zh,d1,dw,Bool.not_false]
   refine⟨⟨l,rfl,hl,hE⟩,⟨e,rfl,he⟩,zo.of_eq ?_⟩
   unfold wO;simp only[d2];rw[if_pos w]
theorem zgy:Holds prog G0 60 qY:=by
 refine Holds.of_exC D60 func60 rfl zK (by kernel_rfl) (tab [(94,zgp)]) (zk ⟨vq,trivial⟩) zw fun k0 rl args hpu hpre=>?_
 unfold qY at hpre ⊢
 obtain⟨l,rfl,hl,hE⟩:=hpre
 simp only[zE,wF]
 by_cases w:(replayed levelE l).2.2=0
 ·have dw:decide ((replayed levelE l).2.2=0)=true:=decide_eq_true w
  simp only[f60]
  rw[zb (Nat.le_of_ble_eq_true rfl)]
  simp(maxSteps:=4000000) only[go_sem,↓zj,zf,encEv,zg,zh,dw,Bool.not_true,zz,zt]
  refine⟨⟨l,rfl,hl,hE⟩,zo.of_eq ?_⟩
  unfold wz
  rw[if_neg (fun q=>q w)]
  rfl
 ·have dw:decide ((replayed levelE l).2.2=0)=false:=decide_eq_false w
  simp only[f60]
  rw[zb (Nat.le_of_ble_eq_true rfl)]
  simp(maxSteps:=4000000) only[go_sem,↓zj,zf,encEv,zg,zh,dw,Bool.not_false,zz]
  refine⟨⟨l,rfl,hl,hE⟩,?_⟩
  unfold wz
  rw[if_pos w]
  exact zo.tup ⟨zo.agg ⟨zo.refl _,zo.nils _ _,zo.nils _ _,zo.nils _ _,zo.nils _ _,zo.nils _ _,zo.nils _ _,zo.refl _,trivial⟩,zo.refl _,zo.refl _,trivial⟩
theorem vP:Holds prog G0 98 askC:=by
 refine Holds.of_exC D98 func98 rfl zK (by kernel_rfl) (tab [(86,yf),(94,zgp),(182,vT),(186,zaS)]) (zk ⟨wx,vq,vX,qo,trivial⟩) zw fun k0 rl args hpu hpre=>?_
 unfold askC at hpre ⊢
 obtain⟨l,c,s,rfl,hl,hE⟩:=hpre
 simp only[zE,zV,zb3,wv,zF,wF]
 have hg:=(wN l).rl
 by_cases w:(replayed levelE l).2.2=0
 ·have dw:decide ((replayed levelE l).2.2=0)=true:=decide_eq_true w
  simp only[f98]
  rw[zb (Nat.le_of_ble_eq_true rfl)]
  simp(maxSteps:=4000000) only[go_sem,↓zj,dw,Bool.not_true,zz,zg]
  refine⟨⟨l,rfl,hl,hE⟩,⟨_,c,rfl,hg⟩,⟨_,_,_,rfl,zbv (hg.names c)⟩,zo.of_eq ?_⟩
  unfold jC
  rw[if_neg (fun q=>q w)]
 ·have dw:decide ((replayed levelE l).2.2=0)=false:=decide_eq_false w
  simp only[f98]
  rw[zb (Nat.le_of_ble_eq_true rfl)]
  simp(maxSteps:=4000000) only[go_sem,↓zj,dw,Bool.not_false,zz]
  refine⟨⟨l,rfl,hl,hE⟩,zo.of_eq ?_⟩
  unfold jC
  rw[if_pos w]
theorem znL:Holds prog G0 24 zbe:=by
 refine Holds.of_exC D24 func24 rfl zK (by kernel_rfl) (tab [(98,askC),(99,zar),(100,zck),(101,vu 104 zZ Reg.house)]) (zk ⟨vP,zaq,kT,kS,trivial⟩) zw fun k0 rl args hpu hpre=>?_
 unfold zbe at hpre ⊢
 obtain⟨l,s,rfl,hl,hE⟩:=hpre
 simp only[zE,zV,zF,wF]
 have hg:=wN l
 by_cases w:jC l 104 s=0
 ·have dw:decide (jC l 104 s=0)=true:=decide_eq_true w
  obtain⟨w1,w2⟩:=qO w
  have hco:=hg.ok.chain _ (za1 w2)
  simp only[f24]
  rw[zb (Nat.le_of_ble_eq_true rfl)]
  simp(maxSteps:=4000000) only[go_sem,↓zj,dw,Bool.not_true,zz,zZ]
  refine⟨⟨l,_,s,rfl,hl,hE⟩,⟨_,s,rfl,hg.rl,w2⟩,⟨_,_,rfl,hco⟩,⟨_,rfl,zil hco⟩,zo.of_eq ?_⟩
  unfold znG
  rw[if_neg (fun q=>q w)]
 ·have dw:decide (jC l 104 s=0)=false:=decide_eq_false w
  simp only[f24]
  rw[zb (Nat.le_of_ble_eq_true rfl)]
  simp(maxSteps:=4000000) only[go_sem,↓zj,dw,Bool.not_false,zz]
  refine⟨⟨l,_,s,rfl,hl,hE⟩,zo.of_eq ?_⟩
  unfold znG
  rw[if_pos w]
end Go.Fly.Tryz
end
