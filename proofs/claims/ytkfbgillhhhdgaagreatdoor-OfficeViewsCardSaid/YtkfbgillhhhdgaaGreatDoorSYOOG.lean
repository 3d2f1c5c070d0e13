/- Part of a proof. No conditions. -/
import Derived.Test.YtkfbgillhhhdgaaGreatDoorSYOBI
import Derived.Test.YtkfbgillhhhdgaaGreatDoorAN
set_option linter.unusedSimpArgs false
set_option linter.unusedVariables false
section
set_option maxRecDepth 100000
set_option maxHeartbeats 4000000
namespace Go.Fly.Tryz
open Go Off Go.Proofs.Tryz
theorem zf9:Holds prog G0 104 (zf0 188):=by
 refine Holds.of_exC D104 func104 rfl zK (by kernel_rfl) (tab [(zm 2,zG),(zm 3,zG)]) (zk ⟨za,za,trivial⟩) zw fun k0 rl args hpu hpre=>?_
 unfold zf0 at hpre ⊢
 obtain⟨r,h,rfl⟩:=hpre
 simp only[zE,zV,zr,zq,zN,zcf]
 simp only[f104]
 rw[zb (Nat.le_of_ble_eq_true rfl)]
 simp(maxSteps:=4000000) only[go_sem,↓zj,zZ]
 exact zo.of_eq rfl
theorem zaq:Holds prog G0 99 zar:=by
 refine Holds.of_exC D99 func99 rfl zK (by kernel_rfl) (tab [(187,zdW)]) (zk ⟨zk3,trivial⟩) zw fun k0 rl args hpu hpre=>?_
 unfold zar at hpre ⊢
 obtain⟨l,rfl,hl⟩:=hpre
 simp only[zE,km]
 simp only[f99]
 rw[zb (Nat.le_of_ble_eq_true rfl)]
 simp(maxSteps:=4000000) only[go_sem,↓zj,zf,wS]
 refine zB.loopF (β:=Nat) [(4,4),(6,6),(11,19)] (fun i=>[(4,.int .i64 (sumN l i)),(11,.int .i64 i)]) (fun _=>fun _=>none) (fun i=>i≤l.length) (fun i=>l.length - i) 0 (Nat.zero_le _) ?_ zy.none ?_
 ·simp(maxSteps:=4000000) only[go_sem,↓zj]
  try exact rfl
 ·intro ck i hck hi
  have hi:i≤l.length:=hi
  have hsb:=zkv hl hi
  have h64:=hl.1
  generalize hq0:exC _ _ _ _ _=gg
  by_cases hlt:i < l.length
  ·have hd:decide ((i:Int) < (l.length:Int))=true:=by simp;omega
   have hx:=hl.2 _ (wd hlt)
   rw[← hq0]
   clear hq0
   simp(maxSteps:=4000000) only[go_sem,↓zj,hd,zf,wS]
   exact⟨⟨by omega,by omega⟩,zn (by omega) (by omega),zn (by omega) (by omega),i+1,hlt,by omega,⟨by rw[zdn hlt],rfl⟩,zy.none⟩
  ·have hd:decide ((i:Int) < (l.length:Int))=false:=by simp;omega
   obtain rfl:i=l.length:=by omega
   rw[← hq0]
   clear hq0
   rw[zgc] at hsb
   simp(maxSteps:=4000000) only[go_sem,↓zj,hd,zgc]
   exact⟨⟨by omega,by omega⟩,zo.of_eq rfl⟩
theorem kT:Holds prog G0 100 zck:=by
 refine Holds.of_exC D100 func100 rfl zK (by kernel_rfl) (tab [(104,zf0 188),(157,vu 116 wg Reg.typ),(zm 3,zG)]) (zk ⟨zf9,zi2,za,trivial⟩) zw fun k0 rl args hpu hpre=>?_
 unfold zck at hpre ⊢
 obtain⟨r,h,rfl,hc⟩:=hpre
 simp only[zE,zV,zr,zq,zN,zcf]
 obtain⟨hr,ht,hfk,h64,hsh⟩:=id hc
 simp only[f100]
 rw[zb (Nat.le_of_ble_eq_true rfl)]
 simp(maxSteps:=4000000) only[go_sem,↓zj,zZ]
 refine⟨⟨r,h,rfl⟩,?_⟩
 refine zB.ents (wu.nilC (l:=(4,1000)) (l2:=(3,5)) (cs:=[.nils]) (j:=0) 2 (fun k=>wS (el (r.chain h.share) k)) (by simp) (by simp[updH]) rfl (by simp[updH]) rfl) ?_
 refine zB.rangeFunc2 rfl (f:=188) (fn:=f188) rfl en188 func188 rfl (fun L=>by simp[updH]) (Dc:=D188) (by kernel_rfl) ?_
 intro L r' k1 e1 e2 e3 e4 e5 e6 hm hd1 hd2
 simp only[f188]
 rw[zA (Nat.le_of_ble_eq_true rfl)]
 simp(maxSteps:=4000000) only[go_sem,↓zj,zf,zM]
 refine zB.loopF (β:=Nat) [(5,6),(12,38)] (fun i=>[(12,.int .i64 i)])
  (fun i=>updH (updH (updH (fun _=>none) (3,5) (.cells [.msl (4,1000) 0 i])) (4,1000) (.arr i 2 (fun k=>wS (el (r.chain h.share) k)))) (0,L) (.raw (.loop r')))
  (fun i=>i≤r.flights.length) (fun i=>r.flights.length - i) 0 (Nat.zero_le _) ?_ ?_ ?_
 ·simp(maxSteps:=4000000) only[go_sem,↓zj]
  try exact rfl
 ·refine zy.upd (zy.upd (zy.upd zy.none ⟨_,?_,ObjLe.refl _⟩) ⟨_,?_,ObjLe.refl _⟩) ⟨_,?_,ObjLe.refl _⟩ <;> simp[updH]
 ·intro ck i hck hi
  have hi:i≤r.flights.length:=hi
  have hk0:¬ ck=0:=by omega
  have hk1:¬ ck=1:=by omega
  have hk2:¬ ck=2:=by omega
  have hk3:¬ ck=3:=by omega
  generalize hq0:exC _ _ _ _ _=gg
  by_cases hlt:i < r.flights.length
  ·have hd:decide ((i:Int) < (r.flights.length:Int))=true:=by simp;omega
   have hmem:=wd hlt
   have hty:=hfk _ hmem
   obtain⟨b1,b2⟩:=ht _ (zdm hty)
   obtain⟨m1,m2,m3⟩:=zdQ b1 b2 hsh
   have hrow:wS (el (r.chain h.share) i)=[.str (el r.flights i).name,.int .i64 (((r.typ (el r.flights i).type).energy * (r.typ (el r.flights i).type).factor * h.share).tdiv 1000000)]:=by
    unfold Reg.chain;rw[vD (fun f:Fl=>(f.name,r.energyAt h.share f)) r.flights hlt];rfl
   rw[← hq0]
   clear hq0
   simp(maxSteps:=4000000) only[go_sem,↓zj,hd,zf,zM,wg,zZ,hk0,hk1,hk2,hk3]
   refine⟨⟨by omega,by omega⟩,⟨r,_,rfl,hr,hty⟩,zn (by omega) (by omega),zn (by omega) (by omega),zn (by omega) (by omega),?_⟩
   refine zdh.of rfl (r:=r') (by simp[updH]) e4 (by rw[e1];rfl) e6 (by rw[e2];exact hd1) (by rw[e3];exact hd2) hm ?_
   intro kb
   simp(maxSteps:=4000000) only[e1,e2,e3,go_sem,↓zj,hk0,hk1,hk2,hk3]
   refine⟨⟨by omega,by omega,wG rfl (hrow ▸ vM _)⟩,zn (by omega) (by omega),i+1,hlt,by omega,rfl,?_⟩
   refine zy.upd (zy.upd (zy.upd zy.none ⟨_,?_,ObjLe.refl _⟩) ⟨_,?_,kR fun j hj=>snoc (f:=fun k=>wS (el (r.chain h.share) k)) rfl hrow hj⟩) ⟨_,zd _ _ _,?_⟩
   ·simp(maxSteps:=4000000) only[go_sem,↓zj,hk0,hk1,hk2,hk3]
   ·simp(maxSteps:=4000000) only[go_sem,↓zj,hk0,hk1,hk2,hk3]
   ·first | (rw[zbg rfl rfl rfl e4 e5];exact ObjLe.refl _) | (rw[zbg e1 e2 e3 e4 e5];exact ObjLe.refl _)
  ·have hd:decide ((i:Int) < (r.flights.length:Int))=false:=by simp;omega
   obtain rfl:i=r.flights.length:=by omega
   rw[← hq0]
   clear hq0
   simp(maxSteps:=4000000) only[go_sem,↓zj,hd,hk0,e4,e5,zal,Nat.zero_add]
   have hlen:r.flights.length=(r.chain h.share).length:=by unfold Reg.chain;rw[List.length_map]
   rw[← hlen]
   exact zo.sl fun k hk=>ww (vM _).pu
theorem zlL:Holds prog G0 161 zif:=by
 refine Holds.of_exC D161 func161 rfl zK (by kernel_rfl) (tab [(99,zar),(100,zck),(zm 3,zG)]) (zk ⟨zaq,kT,za,trivial⟩) zw fun k0 rl args hpu hpre=>?_
 unfold zif at hpre ⊢
 obtain⟨r,h,rfl,hc⟩:=hpre
 simp only[zE,zV,zr,zq,zN,zcf]
 simp only[f161]
 rw[zb (Nat.le_of_ble_eq_true rfl)]
 simp(maxSteps:=4000000) only[go_sem,↓zj,zZ]
 exact⟨⟨r,h,rfl,hc⟩,⟨_,rfl,zil hc⟩,zo.of_eq rfl⟩
theorem zlO:Holds prog G0 183 (zik vV y9):=by
 refine Holds.of_exC D183 func183 rfl zK (by kernel_rfl) (tab [(86,yf),(182,vT),(186,zaS),(zm 4,zG),(zm 5,zG)]) (zk ⟨wx,vX,qo,za,za,trivial⟩) zw fun k0 rl args hpu hpre=>?_
 unfold zik at hpre ⊢
 obtain⟨r,k,e,rfl,hr,hnm⟩:=hpre
 simp only[zE,zV,zb3,zr,zq,zN,wH,zfC,List.getD_cons_zero,zF]
 generalize hls:k.letters=ls at *
 have hl2:ls.length≤1000000:=by rw[← hls];cases k <;> decide
 simp only[f183]
 rw[zb (Nat.le_of_ble_eq_true rfl)]
 simp(maxSteps:=4000000) only[go_sem,↓zj,encEv,zg,zfC,hls]
 refine zB.loopF (β:=Nat) [(6,11),(15,49)] (fun i=>[(7,.bool (zcF r e ls i)),(15,.int .i64 i)]) (fun _=>fun _=>none) (fun i=>i≤ls.length∧NoUnk r e ls i) (fun i=>ls.length - i) 0 ⟨Nat.zero_le _,fun j hj=>by omega⟩ ?_ zy.none ?_
 ·simp(maxSteps:=4000000) only[go_sem,↓zj]
  try exact rfl
 ·intro ck i hck hI
  obtain⟨hi,hno⟩:=hI
  generalize hq0:exC _ _ _ _ _=gg
  by_cases hlt:i < ls.length
  ·have hd:decide ((i:Int) < (ls.length:Int))=true:=by simp;omega
   have hel:ls[i]?.getD 0=el ls i:=by rw[el,List.getD_eq_getElem?_getD];rfl
   obtain⟨c,hc⟩:∃ c:Nat,(el ls i).toNat=c:=⟨_,rfl⟩
   have hc8:c < 256:=by rw[← hc];exact(el ls i).toNat_lt
   obtain⟨tw,htw⟩:∃ tw,zcF r e ls i=tw:=⟨_,rfl⟩
   have hts:=zj1 r e ls i
   rw[htw] at hts
   have hnx:∀ {f th:Bool},yU ls i=f→yP r e ls i=th→(!f && !th)=false→NoUnk r e ls (i+1):=fun {f th} h1 h2 h3 j hj=>by
    by_cases q:j=i
    ·subst q;rw[h1,h2];exact h3
    ·exact hno j (by omega)
   cases hf:yU ls i with
   | true =>
     have hcl:(c:Int) < 97:=by unfold yU at hf;rw[hc] at hf;exact of_decide_eq_true hf
     have hdc:decide ((c:Int) < 97)=true:=decide_eq_true hcl
     have hla:jQ ls i=(c:Int)+32:=by unfold jQ;rw[if_pos hf,hc]
     cases hth:yP r e ls i with
     | true =>
       have hdt:decide (el e.names i∈r.namesOf ((c:Int)+32))=true:=by rw[← hla];exact hth
       rw[← hq0]
       clear hq0
       cases tw
       all_goals
        simp(maxSteps:=4000000) only[go_sem,↓zj,hd,zg,hel,hc,hdc,hdt,htw]
        exact⟨⟨by omega,by omega⟩,(zmn _).2 ⟨by omega,by omega⟩,⟨r,_,rfl,hr⟩,⟨by omega,by omega⟩,⟨_,_,_,rfl,zbv (hr.names _)⟩,zn (by omega) (by omega),i+1,⟨hlt,hnx hf hth rfl⟩,by omega,⟨by rw[hts,hf,hth];rfl,rfl⟩,zy.none⟩
     | false =>
       have hdt:decide (el e.names i∈r.namesOf ((c:Int)+32))=false:=by rw[← hla];exact hth
       rw[← hq0]
       clear hq0
       cases tw
       all_goals
        simp(maxSteps:=4000000) only[go_sem,↓zj,hd,zg,hel,hc,hdc,hdt,htw]
        exact⟨⟨by omega,by omega⟩,(zmn _).2 ⟨by omega,by omega⟩,⟨r,_,rfl,hr⟩,⟨by omega,by omega⟩,⟨_,_,_,rfl,zbv (hr.names _)⟩,zn (by omega) (by omega),i+1,⟨hlt,hnx hf hth rfl⟩,by omega,⟨by rw[hts,hf,hth];rfl,rfl⟩,zy.none⟩
   | false =>
     have hcl:¬ (c:Int) < 97:=by unfold yU at hf;rw[hc] at hf;exact of_decide_eq_false hf
     have hdc:decide ((c:Int) < 97)=false:=decide_eq_false hcl
     have hla:jQ ls i=(c:Int):=by unfold jQ;rw[if_neg (by rw[hf];simp),hc]
     cases hth:yP r e ls i with
     | true =>
       have hdt:decide (el e.names i∈r.namesOf (c:Int))=true:=by rw[← hla];exact hth
       rw[← hq0]
       clear hq0
       cases tw
       all_goals
        simp(maxSteps:=4000000) only[go_sem,↓zj,hd,zg,hel,hc,hdc,hdt,htw]
        first | exact⟨⟨by omega,by omega⟩,⟨r,_,rfl,hr⟩,⟨by omega,by omega⟩,⟨_,_,_,rfl,zbv (hr.names _)⟩,zn (by omega) (by omega),i+1,⟨hlt,hnx hf hth rfl⟩,by omega,⟨by rw[hts,hf,hth];rfl,rfl⟩,zy.none⟩
     | false =>
       have hdt:decide (el e.names i∈r.namesOf (c:Int))=false:=by rw[← hla];exact hth
       rw[← hq0]
       clear hq0
       cases tw
       all_goals
        simp(maxSteps:=4000000) only[go_sem,↓zj,hd,zg,hel,hc,hdc,hdt,htw]
        first | exact⟨⟨by omega,by omega⟩,⟨r,_,rfl,hr⟩,⟨by omega,by omega⟩,⟨_,_,_,rfl,zbv (hr.names _)⟩,zo.of_eq (by rw[zmc hlt (by rw[hf,hth];rfl)])⟩ | trace_state
  ·have hd:decide ((i:Int) < (ls.length:Int))=false:=by simp;omega
   obtain rfl:i=ls.length:=by omega
   rw[← hq0]
   clear hq0
   simp(maxSteps:=4000000) only[go_sem,↓zj,hd]
   exact zo.of_eq (by rw[zmd hno])
theorem fc1_ok:Holds prog G0 144 (qd .type):=by
 refine Holds.of_exC D144 func144 rfl zK (by kernel_rfl) (tab [(84,w7),(85,yb),(86,yf),(zm 3,zG)]) (zk ⟨wB,yh,wx,za,trivial⟩) zw fun k0 rl args hpu hpre=>?_
 unfold qd at hpre ⊢
 obtain⟨r,e,rfl,hp⟩:=hpre
 simp only[zE,zV,zr,zq,zN,wH]
 have hv:e.vals.length=2:=hp.vals
 have hn:e.names.length=1:=hp.names
 obtain⟨⟨r1,r2,r3,r4,r5,r6⟩,hlast,-,-,hkn,hbd⟩:=id hp
 simp only[f144]
 rw[zb (Nat.le_of_ble_eq_true rfl)]
 simp(maxSteps:=4000000) only[go_sem,↓zj,encEv,zh,zg,zf,zM,zX,zP,dEq8]
 exact⟨by omega,zo.of_eq rfl⟩
theorem fc2_ok:Holds prog G0 146 (qd .house):=by
 refine Holds.of_exC D146 func146 rfl zK (by kernel_rfl) (tab [(84,w7),(85,yb),(86,yf),(zm 3,zG)]) (zk ⟨wB,yh,wx,za,trivial⟩) zw fun k0 rl args hpu hpre=>?_
 unfold qd at hpre ⊢
 obtain⟨r,e,rfl,hp⟩:=hpre
 simp only[zE,zV,zr,zq,zN,wH]
 have hv:e.vals.length=2:=hp.vals
 have hn:e.names.length=1:=hp.names
 obtain⟨⟨r1,r2,r3,r4,r5,r6⟩,hlast,-,-,hkn,hbd⟩:=id hp
 simp only[f146]
 rw[zb (Nat.le_of_ble_eq_true rfl)]
 simp(maxSteps:=4000000) only[go_sem,↓zj,encEv,zh,zg,zf,zM,zX,zP,dEq32]
 exact⟨by omega,zo.of_eq rfl⟩
theorem fc3_ok:Holds prog G0 148 (qd .flight):=by
 refine Holds.of_exC D148 func148 rfl zK (by kernel_rfl) (tab [(84,w7),(85,yb),(86,yf),(zm 3,zG)]) (zk ⟨wB,yh,wx,za,trivial⟩) zw fun k0 rl args hpu hpre=>?_
 unfold qd at hpre ⊢
 obtain⟨r,e,rfl,hp⟩:=hpre
 simp only[zE,zV,zr,zq,zN,wH]
 have hv:e.vals.length=2:=hp.vals
 have hn:e.names.length=2:=hp.names
 obtain⟨⟨r1,r2,r3,r4,r5,r6⟩,hlast,-,-,hkn,hbd⟩:=id hp
 simp only[f148]
 rw[zb (Nat.le_of_ble_eq_true rfl)]
 simp(maxSteps:=4000000) only[go_sem,↓zj,encEv,zh,zg,zf,zM,zX,zP,dEq64]
 exact⟨by omega,zo.of_eq rfl⟩
theorem fc4_ok:Holds prog G0 150 (qd .match_):=by
 refine Holds.of_exC D150 func150 rfl zK (by kernel_rfl) (tab [(84,w7),(85,yb),(86,yf),(151,vu 102 zM Reg.flight),(152,flB (fun f=>decide (f.heard≠-1))),(zm 3,zG)]) (zk ⟨wB,yh,wx,zcW,zgB,za,trivial⟩) zw fun k0 rl args hpu hpre=>?_
 unfold qd at hpre ⊢
 obtain⟨r,e,rfl,hp⟩:=hpre
 simp only[zE,zV,zr,zq,zN,wH]
 have hv:e.vals.length=2:=hp.vals
 have hn:e.names.length=1:=hp.names
 obtain⟨⟨r1,r2,r3,r4,r5,r6⟩,hlast,-,-,hkn,hbd⟩:=id hp
 have h0:el e.names 0∈r.namesOf 102:=we hkn (i:=0) (by decide) rfl
 simp only[f150]
 rw[zb (Nat.le_of_ble_eq_true rfl)]
 simp(maxSteps:=4000000) only[go_sem,↓zj,encEv,zh,zg,zf,zM,zX,zP,dEq0]
 exact⟨by omega,by omega,⟨r,_,rfl,hp.rl,h0⟩,⟨_,rfl⟩,zo.of_eq rfl⟩
theorem fc5_ok:Holds prog G0 154 (qd .correct):=by
 refine Holds.of_exC D154 func154 rfl zK (by kernel_rfl) (tab [(84,w7),(85,yb),(86,yf),(155,kW),(zm 3,zG)]) (zk ⟨wB,yh,wx,zbQ,za,trivial⟩) zw fun k0 rl args hpu hpre=>?_
 unfold qd at hpre ⊢
 obtain⟨r,e,rfl,hp⟩:=hpre
 simp only[zE,zV,zr,zq,zN,wH]
 have hv:e.vals.length=2:=hp.vals
 have hn:e.names.length=1:=hp.names
 obtain⟨⟨r1,r2,r3,r4,r5,r6⟩,hlast,-,-,hkn,hbd⟩:=id hp
 simp only[f154]
 rw[zb (Nat.le_of_ble_eq_true rfl)]
 simp(maxSteps:=4000000) only[go_sem,↓zj,encEv,zh,zg,zf,zM,zX,zP,dLt3]
 exact⟨by omega,by omega,⟨r,_,rfl,hp.rl⟩,zo.of_eq rfl⟩
theorem fc6_ok:Holds prog G0 158 (qd .publish):=by
 refine Holds.of_exC D158 func158 rfl zK (by kernel_rfl) (tab [(84,w7),(86,yf),(zm 3,zG)]) (zk ⟨wB,wx,za,trivial⟩) zw fun k0 rl args hpu hpre=>?_
 unfold qd at hpre ⊢
 obtain⟨r,e,rfl,hp⟩:=hpre
 simp only[zE,zV,zr,zq,zN,wH]
 have hv:e.vals.length=1:=hp.vals
 have hn:e.names.length=1:=hp.names
 obtain⟨⟨r1,r2,r3,r4,r5,r6⟩,hlast,-,-,hkn,hbd⟩:=id hp
 simp only[f158]
 rw[zb (Nat.le_of_ble_eq_true rfl)]
 simp(maxSteps:=4000000) only[go_sem,↓zj,encEv,zh,zg,zf,zM,zX,zP,dEq0,dEq16]
 exact zo.of_eq rfl
theorem fc7_ok:Holds prog G0 162 (qd .offer):=by
 refine Holds.of_exC D162 func162 rfl zK (by kernel_rfl) (tab [(84,w7),(85,yb),(86,yf),(163,zm1),(164,qr),(zm 3,zG)]) (zk ⟨wB,yh,wx,zi1,zlQ,za,trivial⟩) zw fun k0 rl args hpu hpre=>?_
 unfold qd at hpre ⊢
 obtain⟨r,e,rfl,hp⟩:=hpre
 simp only[zE,zV,zr,zq,zN,wH]
 have hv:e.vals.length=2:=hp.vals
 have hn:e.names.length=2:=hp.names
 obtain⟨⟨r1,r2,r3,r4,r5,r6⟩,hlast,-,-,hkn,hbd⟩:=id hp
 have h1:el e.names 1∈r.namesOf 104:=we hkn (i:=1) (by decide) rfl
 simp only[f162]
 rw[zb (Nat.le_of_ble_eq_true rfl)]
 simp(maxSteps:=4000000) only[go_sem,↓zj,encEv,zh,zg,zf,zM,zX,zP,dEq0,dEq32]
 exact⟨by omega,by omega,⟨r,_,rfl,hp.rl,h1,hlast⟩,by omega,⟨r,_,rfl,hp.rl⟩,zo.of_eq rfl⟩
theorem fc8_ok:Holds prog G0 166 (qd .fund):=by
 refine Holds.of_exC D166 func166 rfl zK (by kernel_rfl) (tab [(84,w7),(85,yb),(86,yf),(zm 3,zG)]) (zk ⟨wB,yh,wx,za,trivial⟩) zw fun k0 rl args hpu hpre=>?_
 unfold qd at hpre ⊢
 obtain⟨r,e,rfl,hp⟩:=hpre
 simp only[zE,zV,zr,zq,zN,wH]
 have hv:e.vals.length=2:=hp.vals
 have hn:e.names.length=0:=hp.names
 obtain⟨⟨r1,r2,r3,r4,r5,r6⟩,hlast,-,-,hkn,hbd⟩:=id hp
 have hb1:=hbd _ (wd (l:=e.vals) (i:=1) (by omega))
 simp only[f166]
 rw[zb (Nat.le_of_ble_eq_true rfl)]
 simp(maxSteps:=4000000) only[go_sem,↓zj,encEv,zh,zg,zf,zM,zX,zP,dEq0]
 exact⟨by omega,by omega,zn (by omega) (by omega),zo.of_eq rfl⟩
theorem fc9_ok:Holds prog G0 168 (qd .pay):=by
 refine Holds.of_exC D168 func168 rfl zK (by kernel_rfl) (tab [(84,w7),(86,yf),(169,vu 111 zX Reg.offer),(zm 3,zG)]) (zk ⟨wB,wx,zlD,za,trivial⟩) zw fun k0 rl args hpu hpre=>?_
 unfold qd at hpre ⊢
 obtain⟨r,e,rfl,hp⟩:=hpre
 simp only[zE,zV,zr,zq,zN,wH]
 have hv:e.vals.length=1:=hp.vals
 have hn:e.names.length=1:=hp.names
 obtain⟨⟨r1,r2,r3,r4,r5,r6⟩,hlast,-,-,hkn,hbd⟩:=id hp
 have h0:el e.names 0∈r.namesOf 111:=we hkn (i:=0) (by decide) rfl
 simp only[f168]
 rw[zb (Nat.le_of_ble_eq_true rfl)]
 simp(maxSteps:=4000000) only[go_sem,↓zj,encEv,zh,zg,zf,zM,zX,zP,dEq0]
 exact⟨by omega,⟨r,_,rfl,hp.rl,h0⟩,zo.of_eq rfl⟩
theorem fc10_ok:Holds prog G0 171 (qd .complain):=by
 refine Holds.of_exC D171 func171 rfl zK (by kernel_rfl) (tab [(84,w7),(85,yb),(86,yf),(zm 3,zG)]) (zk ⟨wB,yh,wx,za,trivial⟩) zw fun k0 rl args hpu hpre=>?_
 unfold qd at hpre ⊢
 obtain⟨r,e,rfl,hp⟩:=hpre
 simp only[zE,zV,zr,zq,zN,wH]
 have hv:e.vals.length=2:=hp.vals
 have hn:e.names.length=2:=hp.names
 obtain⟨⟨r1,r2,r3,r4,r5,r6⟩,hlast,-,-,hkn,hbd⟩:=id hp
 simp only[f171]
 rw[zb (Nat.le_of_ble_eq_true rfl)]
 simp(maxSteps:=4000000) only[go_sem,↓zj,encEv,zh,zg,zf,zM,zX,zP,dEq64]
 exact⟨by omega,zo.of_eq rfl⟩
theorem fc11_ok:Holds prog G0 173 (qd .answer):=by
 refine Holds.of_exC D173 func173 rfl zK (by kernel_rfl) (tab [(84,w7),(86,yf),(151,vu 102 zM Reg.flight),(174,vu 99 zP Reg.complaint),(zm 3,zG)]) (zk ⟨wB,wx,zcW,zfe,za,trivial⟩) zw fun k0 rl args hpu hpre=>?_
 unfold qd at hpre ⊢
 obtain⟨r,e,rfl,hp⟩:=hpre
 simp only[zE,zV,zr,zq,zN,wH]
 have hv:e.vals.length=1:=hp.vals
 have hn:e.names.length=2:=hp.names
 obtain⟨⟨r1,r2,r3,r4,r5,r6⟩,hlast,-,-,hkn,hbd⟩:=id hp
 have h0:el e.names 0∈r.namesOf 99:=we hkn (i:=0) (by decide) rfl
 have h1:el e.names 1∈r.namesOf 102:=we hkn (i:=1) (by decide) rfl
 simp only[f173]
 rw[zb (Nat.le_of_ble_eq_true rfl)]
 simp(maxSteps:=4000000) only[go_sem,↓zj,encEv,zh,zg,zf,zM,zX,zP,dEq0]
 exact⟨by omega,⟨r,_,rfl,hp.rl,h0⟩,by omega,⟨r,_,rfl,hp.rl,h1⟩,zo.of_eq (by unfold checkK Ev.nm;by_cases q:(r.complaint (el e.names 0)).answered=-1 <;> by_cases q2:(r.flight (el e.names 1)).day=(r.complaint (el e.names 0)).day <;> simp[q,q2])⟩
theorem fc12_ok:Holds prog G0 176 (qd .dismiss):=by
 refine Holds.of_exC D176 func176 rfl zK (by kernel_rfl) (tab [(84,w7),(86,yf),(174,vu 99 zP Reg.complaint),(177,ziw),(zm 3,zG)]) (zk ⟨wB,wx,zfe,zlR,za,trivial⟩) zw fun k0 rl args hpu hpre=>?_
 unfold qd at hpre ⊢
 obtain⟨r,e,rfl,hp⟩:=hpre
 simp only[zE,zV,zr,zq,zN,wH]
 have hv:e.vals.length=1:=hp.vals
 have hn:e.names.length=1:=hp.names
 obtain⟨⟨r1,r2,r3,r4,r5,r6⟩,hlast,-,-,hkn,hbd⟩:=id hp
 have h0:el e.names 0∈r.namesOf 99:=we hkn (i:=0) (by decide) rfl
 simp only[f176]
 rw[zb (Nat.le_of_ble_eq_true rfl)]
 simp(maxSteps:=4000000) only[go_sem,↓zj,encEv,zh,zg,zf,zM,zX,zP,dEq0]
 exact⟨by omega,⟨r,_,rfl,hp.rl,h0⟩,⟨r,_,rfl,hp.rl⟩,zo.of_eq (by unfold checkK Ev.nm;by_cases q:(r.complaint (el e.names 0)).answered=-1 <;> simp[q])⟩
theorem jN:Holds prog G0 95 ku:=by
 refine Holds.of_exC D95 func95 rfl zK (by kernel_rfl) (tab [(83,wX vV y9),(86,yf),(182,vT),(183,zik vV y9),(144,qd .type),(146,qd .house),(148,qd .flight),(150,qd .match_),(154,qd .correct),(158,qd .publish),(162,qd .offer),(166,qd .fund),(168,qd .pay),(171,qd .complain),(173,qd .answer),(176,qd .dismiss),(zm 3,zG)]) (zk ⟨zY,wx,vX,zlO,fc1_ok,fc2_ok,fc3_ok,fc4_ok,fc5_ok,fc6_ok,fc7_ok,fc8_ok,fc9_ok,fc10_ok,fc11_ok,fc12_ok,za,trivial⟩) zw fun k0 rl args hpu hpre=>?_
 unfold ku at hpre ⊢
 obtain⟨h,e,rfl,hp,he⟩:=hpre
 simp only[zE,zV,zr,zq,jb,wH]
 obtain⟨k,hk,hnm,hvl,hbd,-,-,hn1,hn2⟩:=jV he
 have hev:=hp.events
 have hct:=hp.counted
 have hu:=zhj hk
 by_cases c1:e.num=h.events.length+1
 rotate_left
 ·have d1:decide (e.num=(h.events.length:Int)+1)=false:=decide_eq_false c1
  simp only[f95]
  rw[zb (Nat.le_of_ble_eq_true rfl)]
  simp(maxSteps:=4000000) only[go_sem,↓zj,zz,encEv,zf,d1,Bool.not_false]
  exact⟨zn (by omega) (by omega),zo.of_eq (by unfold zT;rw[if_pos c1])⟩
 have d1:decide (e.num=(h.events.length:Int)+1)=true:=decide_eq_true c1
 by_cases cu:k=.undo
 ·subst cu
  rw[decide_eq_true rfl] at hu
  by_cases c2:h.counted.length=0
  ·have d2:decide ((h.counted.length:Int)=0)=true:=decide_eq_true (by omega)
   simp only[f95]
   rw[zb (Nat.le_of_ble_eq_true rfl)]
   simp(maxSteps:=4000000) only[go_sem,↓zj,zz,encEv,zf,d1,Bool.not_true,hu,d2]
   refine⟨zn (by omega) (by omega),zo.of_eq ?_⟩
   unfold zT
   rw[if_neg (by simpa using c1),hk,List.eq_nil_of_length_eq_zero c2]
   rfl
  ·have d2:decide ((h.counted.length:Int)=0)=false:=decide_eq_false (by omega)
   have dn:((h.counted.length:Int) - 1).toNat=h.counted.length - 1:=by omega
   simp only[f95]
   rw[zb (Nat.le_of_ble_eq_true rfl)]
   simp(maxSteps:=4000000) only[go_sem,↓zj,zz,encEv,zf,d1,Bool.not_true,hu,d2,dn]
   exact⟨zn (by omega) (by omega),zn (by omega) (by omega),⟨by omega,by omega⟩,⟨2,_,_,rfl,zew⟩,zo.of_eq (congrArg (V.int .i64) ((congrArg (err · 21) (decide_eq_decide.2 (by rw[znc]))).trans (zg1 c1 hk (by omega)).symm))⟩
 ·rw[decide_eq_false cu] at hu
  have hv0:(0:Int) < e.vals.length:=by rw[hvl];cases k <;> first | exact absurd rfl cu | decide
  by_cases c3:el e.vals 0 < h.now.day
  ·have d3:decide (el e.vals 0 < h.now.day)=true:=decide_eq_true c3
   simp only[f95]
   rw[zb (Nat.le_of_ble_eq_true rfl)]
   simp(maxSteps:=4000000) only[go_sem,↓zj,zz,encEv,zh,zf,d1,Bool.not_true,hu,d3]
   exact⟨zn (by omega) (by omega),hv0,zo.of_eq (by rw[wr c1 hk cu,if_pos c3])⟩
  ·have d3:decide (el e.vals 0 < h.now.day)=false:=decide_eq_false c3
   by_cases c4:jv h.now e k.letters=0
   ·cases k
    ·simp only[f95]
     rw[zb (Nat.le_of_ble_eq_true rfl)]
     simp(maxSteps:=4000000) only[go_sem,↓zj,zz,encEv,zh,zf,d1,Bool.not_true,hu,d3,hk,c4,vV]
     exact⟨zn (by omega) (by omega),hv0,⟨h.now,.type,e,rfl,hp.rl,hnm⟩,⟨h.now,e,rfl,hp.rl,hp.last,hnm,hvl,c4,hbd⟩,zo.of_eq (by rw[wr c1 hk cu,if_neg c3,if_neg (by rw[c4];simp)])⟩
    ·simp only[f95]
     rw[zb (Nat.le_of_ble_eq_true rfl)]
     simp(maxSteps:=4000000) only[go_sem,↓zj,zz,encEv,zh,zf,d1,Bool.not_true,hu,d3,hk,c4,vV]
     exact⟨zn (by omega) (by omega),hv0,⟨h.now,.house,e,rfl,hp.rl,hnm⟩,⟨h.now,e,rfl,hp.rl,hp.last,hnm,hvl,c4,hbd⟩,zo.of_eq (by rw[wr c1 hk cu,if_neg c3,if_neg (by rw[c4];simp)])⟩
    ·simp only[f95]
     rw[zb (Nat.le_of_ble_eq_true rfl)]
     simp(maxSteps:=4000000) only[go_sem,↓zj,zz,encEv,zh,zf,d1,Bool.not_true,hu,d3,hk,c4,vV]
     exact⟨zn (by omega) (by omega),hv0,⟨h.now,.flight,e,rfl,hp.rl,hnm⟩,⟨h.now,e,rfl,hp.rl,hp.last,hnm,hvl,c4,hbd⟩,zo.of_eq (by rw[wr c1 hk cu,if_neg c3,if_neg (by rw[c4];simp)])⟩
    ·simp only[f95]
     rw[zb (Nat.le_of_ble_eq_true rfl)]
     simp(maxSteps:=4000000) only[go_sem,↓zj,zz,encEv,zh,zf,d1,Bool.not_true,hu,d3,hk,c4,vV]
     exact⟨zn (by omega) (by omega),hv0,⟨h.now,.match_,e,rfl,hp.rl,hnm⟩,⟨h.now,e,rfl,hp.rl,hp.last,hnm,hvl,c4,hbd⟩,zo.of_eq (by rw[wr c1 hk cu,if_neg c3,if_neg (by rw[c4];simp)])⟩
    ·simp only[f95]
     rw[zb (Nat.le_of_ble_eq_true rfl)]
     simp(maxSteps:=4000000) only[go_sem,↓zj,zz,encEv,zh,zf,d1,Bool.not_true,hu,d3,hk,c4,vV]
     exact⟨zn (by omega) (by omega),hv0,⟨h.now,.correct,e,rfl,hp.rl,hnm⟩,⟨h.now,e,rfl,hp.rl,hp.last,hnm,hvl,c4,hbd⟩,zo.of_eq (by rw[wr c1 hk cu,if_neg c3,if_neg (by rw[c4];simp)])⟩
    ·simp only[f95]
     rw[zb (Nat.le_of_ble_eq_true rfl)]
     simp(maxSteps:=4000000) only[go_sem,↓zj,zz,encEv,zh,zf,d1,Bool.not_true,hu,d3,hk,c4,vV]
     exact⟨zn (by omega) (by omega),hv0,⟨h.now,.publish,e,rfl,hp.rl,hnm⟩,⟨h.now,e,rfl,hp.rl,hp.last,hnm,hvl,c4,hbd⟩,zo.of_eq (by rw[wr c1 hk cu,if_neg c3,if_neg (by rw[c4];simp)])⟩
    ·simp only[f95]
     rw[zb (Nat.le_of_ble_eq_true rfl)]
     simp(maxSteps:=4000000) only[go_sem,↓zj,zz,encEv,zh,zf,d1,Bool.not_true,hu,d3,hk,c4,vV]
     exact⟨zn (by omega) (by omega),hv0,⟨h.now,.offer,e,rfl,hp.rl,hnm⟩,⟨h.now,e,rfl,hp.rl,hp.last,hnm,hvl,c4,hbd⟩,zo.of_eq (by rw[wr c1 hk cu,if_neg c3,if_neg (by rw[c4];simp)])⟩
    ·simp only[f95]
     rw[zb (Nat.le_of_ble_eq_true rfl)]
     simp(maxSteps:=4000000) only[go_sem,↓zj,zz,encEv,zh,zf,d1,Bool.not_true,hu,d3,hk,c4,vV]
     exact⟨zn (by omega) (by omega),hv0,⟨h.now,.fund,e,rfl,hp.rl,hnm⟩,⟨h.now,e,rfl,hp.rl,hp.last,hnm,hvl,c4,hbd⟩,zo.of_eq (by rw[wr c1 hk cu,if_neg c3,if_neg (by rw[c4];simp)])⟩
    ·simp only[f95]
     rw[zb (Nat.le_of_ble_eq_true rfl)]
     simp(maxSteps:=4000000) only[go_sem,↓zj,zz,encEv,zh,zf,d1,Bool.not_true,hu,d3,hk,c4,vV]
     exact⟨zn (by omega) (by omega),hv0,⟨h.now,.pay,e,rfl,hp.rl,hnm⟩,⟨h.now,e,rfl,hp.rl,hp.last,hnm,hvl,c4,hbd⟩,zo.of_eq (by rw[wr c1 hk cu,if_neg c3,if_neg (by rw[c4];simp)])⟩
    ·simp only[f95]
     rw[zb (Nat.le_of_ble_eq_true rfl)]
     simp(maxSteps:=4000000) only[go_sem,↓zj,zz,encEv,zh,zf,d1,Bool.not_true,hu,d3,hk,c4,vV]
     exact⟨zn (by omega) (by omega),hv0,⟨h.now,.complain,e,rfl,hp.rl,hnm⟩,⟨h.now,e,rfl,hp.rl,hp.last,hnm,hvl,c4,hbd⟩,zo.of_eq (by rw[wr c1 hk cu,if_neg c3,if_neg (by rw[c4];simp)])⟩
    ·simp only[f95]
     rw[zb (Nat.le_of_ble_eq_true rfl)]
     simp(maxSteps:=4000000) only[go_sem,↓zj,zz,encEv,zh,zf,d1,Bool.not_true,hu,d3,hk,c4,vV]
     exact⟨zn (by omega) (by omega),hv0,⟨h.now,.answer,e,rfl,hp.rl,hnm⟩,⟨h.now,e,rfl,hp.rl,hp.last,hnm,hvl,c4,hbd⟩,zo.of_eq (by rw[wr c1 hk cu,if_neg c3,if_neg (by rw[c4];simp)])⟩
    ·simp only[f95]
     rw[zb (Nat.le_of_ble_eq_true rfl)]
     simp(maxSteps:=4000000) only[go_sem,↓zj,zz,encEv,zh,zf,d1,Bool.not_true,hu,d3,hk,c4,vV]
     exact⟨zn (by omega) (by omega),hv0,⟨h.now,.dismiss,e,rfl,hp.rl,hnm⟩,⟨h.now,e,rfl,hp.rl,hp.last,hnm,hvl,c4,hbd⟩,zo.of_eq (by rw[wr c1 hk cu,if_neg c3,if_neg (by rw[c4];simp)])⟩
    ·exact absurd rfl cu
   ·have d4:decide (jv h.now e k.letters=0)=false:=decide_eq_false c4
    simp only[f95]
    rw[zb (Nat.le_of_ble_eq_true rfl)]
    simp(maxSteps:=4000000) only[go_sem,↓zj,zz,encEv,zh,zf,d1,Bool.not_true,hu,d3,hk,d4,Bool.not_false]
    exact⟨zn (by omega) (by omega),hv0,⟨h.now,k,e,rfl,hp.rl,hnm⟩,zo.of_eq (by rw[wr c1 hk cu,if_neg c3,if_pos c4])⟩
end Go.Fly.Tryz
end
