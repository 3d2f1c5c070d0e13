/- Part of a proof. No conditions. -/
import Derived.Test.YtkfbgillhhhdgaaGreatDoorSYOR0
import Derived.Test.YtkfbgillhhhdgaaGreatDoorAV
import Derived.Test.YtkfbgillhhhdgaaGreatDoorSYORG
import Derived.Test.YtkfbgillhhhdgaaGreatDoorSYORB
set_option linter.unusedSimpArgs false
set_option linter.unusedVariables false
section
set_option maxRecDepth 100000
set_option maxHeartbeats 1000000
namespace Go.Fly.Tryz
open Go Off Go.Proofs.Tryz
theorem zlP:Holds prog G0 117 Off.ziu:=by
 refine Holds.of_exC D117 func117 rfl zK (by kernel_rfl) (tab [(155,kW)]) (zk ⟨zbQ,trivial⟩) zw fun k0 rl args hpu hpre=>?_
 unfold Off.ziu at hpre ⊢
 obtain⟨r,s,rfl,hr,hb⟩:=hpre
 simp only[zE,zV,zr,zN,zF]
 obtain⟨l,hl⟩:∃ l,l=r.matched s:=⟨_,rfl⟩
 have hlb:∀ f∈l,-1≤f.heard∧f.heard≤1000000000:=fun f hf=>by
  rw[hl] at hf
  exact hb f (List.mem_filter.1 hf).1
 have hln:l.length≤1000000:=by
  rw[hl]
  exact Nat.le_trans (List.length_filter_le _ _) hr.flights
 simp only[f117]
 rw[zb (Nat.le_of_ble_eq_true rfl)]
 simp(maxSteps:=4000000) only[go_sem,↓zj,zf,zM,← hl]
 refine⟨⟨r,s,rfl,hr⟩,?_⟩
 refine zB.loopF (β:=Nat) [(7,7),(9,9),(15,23)] (fun i=>[(7,.int .i64 (zez l i)),(15,.int .i64 i)]) (fun _=>fun _=>none) (fun i=>i≤l.length) (fun i=>l.length - i) 0 (Nat.zero_le _) ?_ zy.none ?_
 ·simp(maxSteps:=4000000) only[go_sem,↓zj]
  try exact rfl
 ·intro ck i hck hi
  have hi:i≤l.length:=hi
  have hsb:=zgd hlb hi
  generalize hq0:exC _ _ _ _ _=gg
  by_cases hlt:i < l.length
  ·have hd:decide ((i:Int) < (l.length:Int))=true:=by simp;omega
   have hx:=hlb _ (wd hlt)
   rw[← hq0]
   clear hq0
   simp(maxSteps:=4000000) only[go_sem,↓zj,hd,zf,zM]
   exact⟨⟨by omega,by omega⟩,zn (by omega) (by omega),zn (by omega) (by omega),by omega,i+1,hlt,by omega,⟨by rw[zey hlt],rfl⟩,zy.none⟩
  ·have hd:decide ((i:Int) < (l.length:Int))=false:=by simp;omega
   obtain rfl:i=l.length:=by omega
   rw[← hq0]
   clear hq0
   simp(maxSteps:=4000000) only[go_sem,↓zj,hd,zhq]
   exact zo.of_eq rfl
theorem zfa:Holds prog G0 48 zof:=by
 refine Holds.of_exC D48 func48 rfl zK (by kernel_rfl) (tab [(98,askC),(117,Off.ziu)]) (zk ⟨vP,zlP,trivial⟩) zw fun k0 rl args hpu hpre=>?_
 unfold zof at hpre ⊢
 obtain⟨l,s,rfl,hl,hE⟩:=hpre
 simp only[zE,zV,zF,wF]
 have hg:=wN l
 by_cases w:jC l 116 s=0
 ·have dw:decide (jC l 116 s=0)=true:=decide_eq_true w
  simp only[f48]
  rw[zb (Nat.le_of_ble_eq_true rfl)]
  simp(maxSteps:=4000000) only[go_sem,↓zj,dw,Bool.not_true,zz]
  refine⟨⟨l,_,s,rfl,hl,hE⟩,⟨_,s,rfl,hg.rl,zeO l⟩,zo.of_eq ?_⟩
  unfold zod
  rw[if_neg (fun q=>q w)]
 ·have dw:decide (jC l 116 s=0)=false:=decide_eq_false w
  simp only[f48]
  rw[zb (Nat.le_of_ble_eq_true rfl)]
  simp(maxSteps:=4000000) only[go_sem,↓zj,dw,Bool.not_false,zz]
  refine⟨⟨l,_,s,rfl,hl,hE⟩,zo.of_eq ?_⟩
  unfold zod
  rw[if_pos w]
theorem zi8:Holds prog G0 103 zkr:=by
 refine Holds.of_exC D103 func103 rfl zK (by kernel_rfl) (tab [(zm 1,zG)]) (zk ⟨za,trivial⟩) zw fun k0 rl args hpu hpre=>?_
 unfold zkr at hpre ⊢
 obtain⟨t,rfl⟩:=hpre
 simp only[zE,zq,ziO]
 simp only[f103]
 rw[zb (Nat.le_of_ble_eq_true rfl)]
 simp(maxSteps:=4000000) only[go_sem,↓zj,wg]
 exact zo.of_eq rfl
theorem zgz:Holds prog G0 102 (zbf 103):=by
 refine Holds.of_exC D102 func102 rfl zK (by kernel_rfl) (tab [(103,zkr)]) (zk ⟨zi8,trivial⟩) zw fun k0 rl args hpu hpre=>?_
 unfold zbf at hpre ⊢
 obtain⟨l,rfl,hl⟩:=hpre
 simp only[zE,zV,zcd]
 simp only[f102]
 rw[zb (Nat.le_of_ble_eq_true rfl)]
 simp(maxSteps:=4000000) only[go_sem,↓zj,zf,wg]
 refine zB.ents (wu.nilArr (d:=5) (l:=(4,1000)) 2 (fun _=>[]) rfl rfl rfl) ?_
 simp(maxSteps:=4000000) only[go_sem,↓zj]
 refine zB.loopF (β:=Nat) [(5,5),(7,7),(10,20)] (fun i=>[(5,.msl (4,1000) 0 i),(10,.int .i64 i)]) (fun i=>updH (fun _=>none) (4,1000) (.arr i 2 (fun i=>wS ((el l i).name,0)))) (fun i=>i≤l.length) (fun i=>l.length - i) 0 (Nat.zero_le _) ?_ (zy.arr1 (zd _ _ _) rfl rfl fun i hi=>by omega) ?_
 ·simp(maxSteps:=4000000) only[go_sem,↓zj]
  try simp
 ·intro ck i hck hi
  generalize hq0:exC _ _ _ _ _=gg
  by_cases hlt:i < l.length
  ·have hd:decide ((i:Int) < (l.length:Int))=true:=by simp;omega
   rw[← hq0]
   clear hq0
   simp(maxSteps:=4000000) only[go_sem,↓zj,hd,zf,wg,wS]
   exact⟨⟨by omega,by omega⟩,⟨el l i,rfl⟩,⟨by omega,by omega,wG rfl (vM ((el l i).name,0))⟩,zn (by omega) (by omega),i+1,hlt,by omega,⟨rfl,rfl⟩,zy.arr1 (zd _ _ _) rfl rfl fun j hj=>snoc (f:=fun i=>wS ((el l i).name,0)) rfl rfl hj⟩
  ·have hd:decide ((i:Int) < (l.length:Int))=false:=by simp;omega
   obtain rfl:i=l.length:=by omega
   rw[← hq0]
   clear hq0
   simp(maxSteps:=4000000) only[go_sem,↓zj,hd,Nat.zero_add]
   exact⟨(4,1000),l.length,2,_,_,rfl,if_pos rfl,fun _ _=>rfl,rfl,rfl,vL (sz:=2) (f:=fun t:Ty=>wS (t.name,0)) (fun x=>(vM _).pu) l⟩
theorem zgC:Holds prog G0 26 btQC:=by
 refine Holds.of_exC D26 func26 rfl zK (by kernel_rfl) (tab [(98,askC),(101,vu 104 zZ Reg.house),(102,zbf 103),(103,zkr),(104,zf0 188),(105,yY),(157,vu 116 wg Reg.typ)]) (zk ⟨vP,kS,zgz,zi8,zf9,wQ,zi2,trivial⟩) zw fun k0 rl args hpu hpre=>?_
 unfold btQC at hpre ⊢
 obtain⟨l,s,rfl,hl,hE⟩:=hpre
 simp only[zE,zV,zF,wF]
 have hg:=wN l
 by_cases w:jC l 104 s=0
 ·have dw:decide (jC l 104 s=0)=true:=decide_eq_true w
  obtain⟨w1,w2⟩:=qO w
  have hco:=hg.ok.chain _ (za1 w2)
  have hbe:btE l s=((replayed levelE l).1.now.byTypes ((replayed levelE l).1.now.house s).share,0):=by
   unfold btE
   rw[if_neg (fun q=>q w)]
  rw[hbe]
  generalize hrr:(replayed levelE l).1.now=r at *
  generalize hhh:r.house s=h at *
  simp only[f26]
  rw[zb (Nat.le_of_ble_eq_true rfl)]
  simp(maxSteps:=4000000) only[go_sem,↓zj,dw,Bool.not_true,zz,zZ,hrr,hhh]
  obtain⟨hr,ht,hfk,h64,hsh⟩:=id hco
  refine⟨⟨l,_,s,rfl,hl,hE⟩,⟨_,rfl,hr.types⟩,⟨r,s,rfl,hr,w2⟩,⟨r,h,rfl⟩,?_⟩
  refine zB.rangeFunc2 rfl (f:=188) (fn:=f188) rfl en188 func188 rfl (fun L=>by simp[updH]) (Dc:=D188) (by kernel_rfl) ?_
  intro L r' k1 e1 e2 e3 e4 e5 e6 hm hd1 hd2
  simp only[f188]
  rw[zA (Nat.le_of_ble_eq_true rfl)]
  have hfl:zf 5 zM r.flights=.sl r.flights.length 5 fun i=>zM (el r.flights i):=rfl
  simp(maxSteps:=4000000) only[go_sem,↓zj,hfl,zM]
  refine zB.loopF (β:=Nat) [(5,6),(12,38)] (fun i=>[(12,.int .i64 i)])
   (fun i=>updH (updH (updH (updH (fun _=>none) (3,6) (.cells [.cptr (zf 5 encEv (replayed levelE l).1.events::zf 5 encEv (replayed levelE l).1.counted::zt r)])) (5,8) (.cells [.msl (5,24) 0 r.types.length])) (5,24) (.arr r.types.length 2 (fun j=>wS (zh7 r h.share i j)))) (0,L) (.raw (.loop r')))
   (fun i=>i≤r.flights.length) (fun i=>r.flights.length - i) 0 (Nat.zero_le _) ?_ ?_ ?_
  ·simp(maxSteps:=4000000) only[go_sem,↓zj]
   try exact rfl
  ·refine zy.upd (zy.upd (zy.upd (zy.upd zy.none ⟨_,?_,ObjLe.refl _⟩) ⟨_,?_,ObjLe.refl _⟩) ⟨_,?_,ObjLe.refl _⟩) ⟨_,?_,ObjLe.refl _⟩ <;> simp[updH]
   rfl
  ·intro ck i hck hi
   have hi:i≤r.flights.length:=hi
   have hk0:¬ ck=0:=by omega
   have hk3:¬ ck=3:=by omega
   have hk5:¬ ck=5:=by omega
   generalize hq0:exC _ _ _ _ _=gg
   by_cases hlt:i < r.flights.length
   ·have hd:decide ((i:Int) < (r.flights.length:Int))=true:=by simp;omega
    have hmem:=wd hlt
    have hty:=hfk _ hmem
    obtain⟨b1,b2⟩:=ht _ (zdm hty)
    obtain⟨m1,m2,m3⟩:=zdQ b1 b2 hsh
    rw[← hq0]
    clear hq0
    simp(maxSteps:=4000000) only[go_sem,↓zj,hd,hfl,zM,wg,zZ,hk0,hk3,hk5]
    refine⟨⟨by omega,by omega⟩,⟨r,_,rfl,hr,hty⟩,zn (by omega) (by omega),zn (by omega) (by omega),zn (by omega) (by omega),?_⟩
    refine zdh.of rfl (r:=r') (by simp[updH]) e4 (by rw[e1];rfl) e6 (by rw[e2];exact hd1) (by rw[e3];exact hd2) hm ?_
    intro kb
    have hix:=yz hty
    have hpl:zO (r.namesOf 116) (el r.flights i).type < r.types.length:=by have:=yG hty;rwa [show (r.namesOf 116).length=r.types.length from List.length_map _] at this
    generalize hp:zO (r.namesOf 116) (el r.flights i).type=p at hix hpl
    simp(maxSteps:=4000000) only[e1,e2,e3,go_sem,↓zj,hk0,hk3,hk5,hix,wS]
    have hbt:=bt_bd hco (j:=p) hi
    have hen:r.energyAt h.share (el r.flights i)=((r.typ (el r.flights i).type).energy * (r.typ (el r.flights i).type).factor * h.share).tdiv 1000000:=rfl
    have hb2:(zh7 r h.share i (0+p)).2=btN r h.share p i:=by rw[Nat.zero_add];rfl
    rw[hb2]
    refine⟨⟨r,116,_,rfl,hr⟩,⟨by omega,by omega,by omega⟩,zn (by omega) (by omega),⟨by omega,by omega,by omega⟩,zn (by omega) (by omega),by omega,i+1,hlt,by omega,rfl,?_⟩
    refine zy.upd (zy.upd (zy.upd (zy.upd zy.none ⟨_,?_,ObjLe.refl _⟩) ⟨_,?_,ObjLe.refl _⟩) ⟨.arr r.types.length 2 (fun i'=>if i'=0+p then [.str (zh7 r h.share i (0+p)).1,.int .i64 (btN r h.share p i+((r.typ (el r.flights i).type).energy * (r.typ (el r.flights i).type).factor * h.share).tdiv 1000000)] else [.str (zh7 r h.share i i').1,.int .i64 (zh7 r h.share i i').2]),?_,kR fun j hj=>?_⟩) ⟨_,zd _ _ _,?_⟩
    ·simp(maxSteps:=4000000) only[go_sem,↓zj,hk0,hk3,hk5]
    ·simp(maxSteps:=4000000) only[go_sem,↓zj,hk0,hk3,hk5]
    ·simp(maxSteps:=4000000) only[go_sem,↓zj,hk0,hk3,hk5]
    ·rw[← hen,Nat.zero_add]
     by_cases q:j=p
     ·subst q
      rw[if_pos rfl]
      show [V.str (el r.types j).name,V.int .i64 (btN r h.share j (i+1))]=[V.str (el r.types j).name,V.int .i64 (btN r h.share j i+r.energyAt h.share (el r.flights i))]
      rw[show btN r h.share j (i+1)=btN r h.share j i+r.energyAt h.share (el r.flights i) from if_pos hp]
     ·rw[if_neg q]
      show [V.str (el r.types j).name,V.int .i64 (btN r h.share j (i+1))]=[V.str (el r.types j).name,V.int .i64 (btN r h.share j i)]
      rw[show btN r h.share j (i+1)=btN r h.share j i from if_neg fun z=>q (by rw[← z,hp])]
    ·first | (rw[zbg rfl rfl rfl e4 e5];exact ObjLe.refl _) | (rw[zbg e1 e2 e3 e4 e5];exact ObjLe.refl _)
   ·have hd:decide ((i:Int) < (r.flights.length:Int))=false:=by simp;omega
    obtain rfl:i=r.flights.length:=by omega
    rw[← hq0]
    clear hq0
    simp(maxSteps:=4000000) only[go_sem,↓zj,hd,hk0,e4,e5,zal,Nat.zero_add]
    refine zo.tup ⟨?_,zo.refl _,trivial⟩
    refine zkn (by unfold Reg.byTypes;simp) fun k hk=>?_
    have hk':k < r.types.length:=by unfold Reg.byTypes at hk;simpa using hk
    rw[show el (r.byTypes h.share) k=zh7 r h.share r.flights.length k from ziL hk']
    exact ww (vM _).pu
 ·have dw:decide (jC l 104 s=0)=false:=decide_eq_false w
  simp only[f26]
  rw[zb (Nat.le_of_ble_eq_true rfl)]
  simp(maxSteps:=4000000) only[go_sem,↓zj,dw,Bool.not_false,zz]
  refine⟨⟨l,_,s,rfl,hl,hE⟩,?_⟩
  unfold btE
  rw[if_pos w]
  exact zo.tup ⟨zo.nils _ _,zo.refl _,trivial⟩
theorem zi0:Holds prog G0 41 zfk:=by
 refine Holds.of_exC D41 func41 rfl zK (by kernel_rfl) (tab [(98,askC),(110,vu 109 wq Reg.chart),(111,ze4),(112,zhz),(zm 5,zG)]) (zk ⟨vP,zff,k8,zlA,za,trivial⟩) zw fun k0 rl args hpu hpre=>?_
 unfold zfk at hpre ⊢
 obtain⟨l,m,k,rfl,hl,hE,hk⟩:=hpre
 simp only[zE,zV,zb3,zF,wF,zq,zaA]
 have hg:=wN l
 have hmb:=zeN l
 have hall:=qp hk.len
 by_cases w:jC l 109 m=0
 ·have dw:decide (jC l 109 m=0)=true:=decide_eq_true w
  obtain⟨w1,w2⟩:=qO w
  have hcm:=znk w2
  have hme:kX l m k=(zbD k (vY (replayed levelE l).1.now ((replayed levelE l).1.now.chart m)),0):=by
   unfold kX
   rw[if_neg (fun q=>q w)]
  rw[hme]
  generalize hrr:(replayed levelE l).1.now=r at *
  generalize hcc:r.chart m=c at *
  have hlv:=hmb.levels c hcm
  have hcl:c.levels.length≤32:=Nat.le_trans hlv.1 hg.nh
  simp only[f41]
  rw[zb (Nat.le_of_ble_eq_true rfl)]
  simp(maxSteps:=4000000) only[go_sem,↓zj,dw,Bool.not_true,zz,wq,zh,hrr,hcc]
  refine⟨⟨l,_,m,rfl,hl,hE⟩,⟨r,m,rfl,hg.rl,w2⟩,?_⟩
  refine zB.loopF (β:=Nat) [(10,12),(32,53)] (fun i=>[(10,.str (jO r c i)),(32,.int .i64 i)]) (fun _=>updH (fun _=>none) (2,6) (.cells [.int .u8 0,.int .u8 0,.int .u8 0,.int .u8 0,.int .u8 0,.int .u8 0,.int .u8 0,.int .u8 0])) (fun i=>i≤c.levels.length) (fun i=>c.levels.length - i) 0 (Nat.zero_le _) ?_ (zy.refl _) ?_
  ·simp(maxSteps:=400000) only[go_sem,↓zj]
   try exact rfl
  ·intro ck i hck hi
   have hi:i≤c.levels.length:=hi
   have hml:=zaT hmb hcm hi
   generalize hq0:exC _ _ _ _ _=gg
   by_cases hlt:i < c.levels.length
   ·have hd:decide ((i:Int) < (c.levels.length:Int))=true:=decide_eq_true (by omega)
    have hh:=hmb.houses _ (wd (show i < r.houses.length by omega))
    have hv:=hlv.2 _ (wd hlt)
    have hit:=itoa21 (n:=el c.levels i) (by omega)
    have hfl:zf 2 zZ r.houses=.sl r.houses.length 2 fun i=>zZ (el r.houses i):=rfl
    rw[← hq0]
    clear hq0
    simp(maxSteps:=400000) only[go_sem,↓zj,hd,hfl,zZ]
    simp only[List.length_append,List.length_cons,List.length_nil]
    refine⟨⟨by omega,by omega⟩,⟨by omega,by omega⟩,by omega,⟨by omega,by omega⟩,by omega,by omega,by omega,zn (by omega) (by omega),by omega,i+1,hlt,by omega,⟨rfl,by rw[Int.natCast_add];rfl⟩,zy.refl _⟩
   ·have hd:decide ((i:Int) < (c.levels.length:Int))=false:=decide_eq_false (by omega)
    obtain rfl:i=c.levels.length:=by omega
    have hms:jO r c c.levels.length=vY r c:=rfl
    have hsq:∀ k,zcH k (vY r c)=(zbD k (vY r c),0):=fun k=>by
     unfold zcH
     rw[if_neg (by rw[← hms];omega)]
    have hc1:=jX (yg k (vY r c))
    have hc2:=ja (yg k (vY r c))
    have hc3:=kC (yg k (vY r c))
    have hall2:=qp (yg k (vY r c))
    have hbv:zdj (vY r c).length (fun i=>[.int .u8 ((vY r c)[i]?.getD 0).toNat]) (vY r c):=⟨rfl,fun i hi=>by rw[List.getD_eq_getElem?_getD]⟩
    have hdb:=qx hbv
    rw[← hq0]
    clear hq0
    simp(maxSteps:=400000) only[go_sem,↓zj,hd,hms,hall,hdb,hsq,hc1,hc2,hc3,hall2]
    exact⟨⟨k,_,_,_,rfl,hk,hbv,by rw[← hms];omega⟩,zo.of_eq rfl⟩
 ·have dw:decide (jC l 109 m=0)=false:=decide_eq_false w
  simp only[f41]
  rw[zb (Nat.le_of_ble_eq_true rfl)]
  simp(maxSteps:=4000000) only[go_sem,↓zj,dw,Bool.not_false,zz]
  refine⟨⟨l,_,m,rfl,hl,hE⟩,zo.of_eq ?_⟩
  unfold kX
  rw[if_pos w]
  rfl
theorem list8 {K:List Int}(h:K.length=8):∃ a b c d e f g i,K=[a,b,c,d,e,f,g,i]:=by
 match K,h with
 | [a,b,c,d,e,f,g,i],_=>exact⟨a,b,c,d,e,f,g,i,rfl⟩
theorem zdO:Holds prog G0 42 zbk:=by
 refine Holds.of_exC D42 func42 rfl zK (by kernel_rfl) (tab [(41,zfk),(84,w7),(86,yf),(zm 6,zG),(zm 7,zG)]) (zk ⟨zi0,wB,wx,za,za,trivial⟩) zw fun k0 rl args hpu hpre=>?_
 unfold zbk at hpre ⊢
 obtain⟨l,m,k,s,rfl,hl,hE,hk,hs⟩:=hpre
 simp only[zE,zV,zb3,znr,zF,wF,zq,zaA]
 have hall:=qp hk.len
 have hall2:=qp hs.len
 have hm8:(kX l m k).1.length=8:=by
  unfold kX
  split
  ·rfl
  ·exact yg _ _
 obtain⟨a0,a1,a2,a3,a4,a5,a6,a7,ha⟩:=list8 hm8
 obtain⟨b0,b1,b2,b3,b4,b5,b6,b7,hb⟩:=list8 hs.len
 have hA:wj (kX l m k).1=[.int .u8 a0,.int .u8 a1,.int .u8 a2,.int .u8 a3,.int .u8 a4,.int .u8 a5,.int .u8 a6,.int .u8 a7]:=by rw[ha];rfl
 have hS:wj s=[.int .u8 b0,.int .u8 b1,.int .u8 b2,.int .u8 b3,.int .u8 b4,.int .u8 b5,.int .u8 b6,.int .u8 b7]:=by rw[hb];rfl
 have hdec:decide ((kX l m k).1=s)=(decide (a0=b0) && (decide (a1=b1) && (decide (a2=b2) && (decide (a3=b3) && (decide (a4=b4) && (decide (a5=b5) && (decide (a6=b6) && decide (a7=b7)))))))):=by rw[ha,hb];simp
 simp only[f42]
 rw[zb (Nat.le_of_ble_eq_true rfl)]
 simp(maxSteps:=4000000) only[go_sem,↓zj,hall,hA,hS]
 exact⟨⟨l,m,k,rfl,hl,hE,hk⟩,zo.of_eq (by rw[← hdec];rfl)⟩
end Go.Fly.Tryz
end
