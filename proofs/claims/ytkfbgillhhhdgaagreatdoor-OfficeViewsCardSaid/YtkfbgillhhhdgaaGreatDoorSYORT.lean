/- Part of a proof. No conditions. -/
import Derived.Test.YtkfbgillhhhdgaaGreatDoorSYORO
import Derived.Test.YtkfbgillhhhdgaaGreatDoorAZ
set_option linter.unusedSimpArgs false
set_option linter.unusedVariables false
section
set_option maxRecDepth 100000
set_option maxHeartbeats 1000000
namespace Go.Fly.Tryz
open Go Off Go.Proofs.Tryz
theorem rRule_ok:Holds prog G0 185 kE:=by
 refine Holds.of_exC D185 func185 rfl zK (by kernel_rfl) (tab [(28,yd 104),(29,w7),(30,yf),(49,yb),(53,zdH),(118,zdF),(119,zdG),(142,yd 111),(143,yd 99),(191,yd 102),(232,zbd),(zm 2,zG),(zm 3,zG)]) (zk ⟨zbI,kJ,jI,zeX,zgt,zo4,zgs,qZ,ka,qj,rFlew_ok,za,za,trivial⟩) zw fun k0 rl args hpu hpre=>?_
 unfold kE at hpre ⊢
 obtain⟨r,e,k,rfl,hR,hAn⟩:=hpre
 simp only[zE,zV,zq,zN,wH]
 obtain⟨hg,hheb,hk,hu,hnl,hvl,hbd,hkn⟩:=hR
 have hkd:kdOf e=k:=by unfold kdOf;rw[hk];rfl
 rw[hkd]
 have hrl:=hg.rl
 have D:=ze2 hk
 cases k
 case type =>
  have hvl:e.vals.length=2:=hvl
  have hnl:e.names.length=1:=hnl
  simp only[f185]
  rw[zb (Nat.le_of_ble_eq_true rfl)]
  simp(maxSteps:=4000000) only[go_sem,↓zj,↓reduceIte,encEv,zg,zh,zf,wg,zZ,zM,wq,zX,zP,D,kdB]
  have hv1:=(hbd _ (wd (show 1 < e.vals.length by omega))).1
  refine⟨by omega,zo.of_eq (congrArg (V.int .i64) ?_)⟩
  rw[zhF hv1,show ((8:Int))=((8:Nat):Int) from rfl,zcp hg.nt]
  rfl
 case house =>
  have hvl:e.vals.length=2:=hvl
  have hnl:e.names.length=1:=hnl
  simp only[f185]
  rw[zb (Nat.le_of_ble_eq_true rfl)]
  simp(maxSteps:=4000000) only[go_sem,↓zj,↓reduceIte,encEv,zg,zh,zf,wg,zZ,zM,wq,zX,zP,D,kdB]
  have hv1:=(hbd _ (wd (show 1 < e.vals.length by omega))).1
  refine⟨by omega,zo.of_eq (congrArg (V.int .i64) ?_)⟩
  rw[zhF hv1,show ((32:Int))=((32:Nat):Int) from rfl,zcp hg.nh]
  rfl
 case flight =>
  have hvl:e.vals.length=2:=hvl
  have hnl:e.names.length=2:=hnl
  simp only[f185]
  rw[zb (Nat.le_of_ble_eq_true rfl)]
  simp(maxSteps:=4000000) only[go_sem,↓zj,↓reduceIte,encEv,zg,zh,zf,wg,zZ,zM,wq,zX,zP,D,kdB]
  have hv1:=(hbd _ (wd (show 1 < e.vals.length by omega))).1
  refine⟨by omega,zo.of_eq (congrArg (V.int .i64) ?_)⟩
  rw[show err (decide ((1440:Int)≤el e.vals 1)) 3=rng (el e.vals 1) 0 1439 from zkY (M:=1439) hv1,show ((64:Int))=((64:Nat):Int) from rfl,zcp hg.nf]
  rfl
 case match_ =>
  have hvl:e.vals.length=2:=hvl
  have hnl:e.names.length=1:=hnl
  simp only[f185]
  rw[zb (Nat.le_of_ble_eq_true rfl)]
  simp(maxSteps:=4000000) only[go_sem,↓zj,↓reduceIte,encEv,zg,zh,zf,wg,zZ,zM,wq,zX,zP,D,kdB]
  have hv1:=(hbd _ (wd (show 1 < e.vals.length by omega))).1
  have hm:el e.names 0∈r.namesOf 102:=we hkn (i:=0) (by decide) (by decide)
  have hpl:zO (r.namesOf 102) (el e.names 0) < r.flights.length:=zU (f:=Fl.name) hm
  have hidx:=yz hm
  rw[hidx]
  refine⟨by omega,by omega,⟨r,_,rfl,hrl⟩,⟨by omega,by omega⟩,zo.of_eq (congrArg (V.int .i64) ?_)⟩
  rw[zhF hv1,Int.toNat_natCast,zgG (hheb _ (wd hpl)).1]
  rfl
 case correct =>
  have hvl:e.vals.length=2:=hvl
  have hnl:e.names.length=1:=hnl
  simp only[f185]
  rw[zb (Nat.le_of_ble_eq_true rfl)]
  simp(maxSteps:=4000000) only[go_sem,↓zj,↓reduceIte,encEv,zg,zh,zf,wg,zZ,zM,wq,zX,zP,D,kdB]
  refine⟨by omega,⟨r,_,rfl,hrl,hheb⟩,by omega,zo.of_eq (congrArg (V.int .i64) ?_)⟩
  rw[lt3_eq]
  rfl
 case publish =>
  have hvl:e.vals.length=1:=hvl
  have hnl:e.names.length=1:=hnl
  simp only[f185]
  rw[zb (Nat.le_of_ble_eq_true rfl)]
  simp(maxSteps:=4000000) only[go_sem,↓zj,↓reduceIte,encEv,zg,zh,zf,wg,zZ,zM,wq,zX,zP,D,kdB]
  refine zo.of_eq (congrArg (V.int .i64) ?_)
  rw[zg7,show ((16:Int))=((16:Nat):Int) from rfl,zcp hg.nm]
  rfl
 case offer =>
  have hvl:e.vals.length=2:=hvl
  have hnl:e.names.length=2:=hnl
  have hm:el e.names 1∈r.namesOf 104:=we hkn (i:=1) (by decide) (by decide)
  have hidx:=yz hm
  cases hli:r.listed (el e.names 1) with
  | none =>
    have hlo:=zm0 hli
    have hpo:=(zcO (r:=r) hm).trans hli
    simp only[f185]
    rw[zb (Nat.le_of_ble_eq_true rfl)]
    simp(maxSteps:=4000000) only[go_sem,↓zj,↓reduceIte,encEv,zg,zh,zf,wg,zZ,zM,wq,zX,zP,D,kdB,hidx,hpo,optW]
    refine⟨by omega,⟨r,_,rfl,hrl⟩,⟨r,_,rfl,hrl,hg.last⟩,by omega,by omega,⟨r,_,rfl,hrl⟩,zo.of_eq (congrArg (V.int .i64) ?_)⟩
    have hsp:checkK r e .offer=zv [rng (el e.vals 1) 1 100000000,err (decide (r.maps.length=0)) 7,err (!r.isLoud (el e.names 1)) 21,err (r.hasOffer (el e.names 1)) 31,err (decide (r.offers.length=32)) 5]:=rfl
    rw[hsp,hlo,zg7,show ((32:Int))=((32:Nat):Int) from rfl,zcp hg.no]
    rfl
  | some n =>
    have hlo:=zlZ hli
    have hpo:=(zcO (r:=r) hm).trans hli
    simp only[f185]
    rw[zb (Nat.le_of_ble_eq_true rfl)]
    simp(maxSteps:=4000000) only[go_sem,↓zj,↓reduceIte,encEv,zg,zh,zf,wg,zZ,zM,wq,zX,zP,D,kdB,hidx,hpo,optW]
    refine⟨by omega,⟨r,_,rfl,hrl⟩,⟨r,_,rfl,hrl,hg.last⟩,by omega,by omega,⟨r,_,rfl,hrl⟩,zo.of_eq (congrArg (V.int .i64) ?_)⟩
    have hsp:checkK r e .offer=zv [rng (el e.vals 1) 1 100000000,err (decide (r.maps.length=0)) 7,err (!r.isLoud (el e.names 1)) 21,err (r.hasOffer (el e.names 1)) 31,err (decide (r.offers.length=32)) 5]:=rfl
    rw[hsp,hlo,zg7,show ((32:Int))=((32:Nat):Int) from rfl,zcp hg.no,Bool.not_not]
 case fund =>
  have hvl:e.vals.length=2:=hvl
  have hnl:e.names.length=0:=hnl
  simp only[f185]
  rw[zb (Nat.le_of_ble_eq_true rfl)]
  simp(maxSteps:=4000000) only[go_sem,↓zj,↓reduceIte,encEv,zg,zh,zf,wg,zZ,zM,wq,zX,zP,D,kdB]
  have hv1:=hbd _ (wd (show 1 < e.vals.length by omega))
  have hfd:=hg.fund
  refine⟨by omega,by omega,zn (by omega) (by omega),zo.of_eq (congrArg (V.int .i64) ?_)⟩
  rw[show decide ((1000000000000:Int) < r.fund+el e.vals 1)=decide (1000000000000 - el e.vals 1 < r.fund) from decide_eq_decide.2 (by omega)]
  rfl
 case pay =>
  have hvl:e.vals.length=1:=hvl
  have hnl:e.names.length=1:=hnl
  simp only[f185]
  rw[zb (Nat.le_of_ble_eq_true rfl)]
  simp(maxSteps:=4000000) only[go_sem,↓zj,↓reduceIte,encEv,zg,zh,zf,wg,zZ,zM,wq,zX,zP,D,kdB]
  have hm:el e.names 0∈r.namesOf 111:=we hkn (i:=0) (by decide) (by decide)
  have hpl:zO (r.namesOf 111) (el e.names 0) < r.offers.length:=zU (f:=Of.name) hm
  have hidx:=yz hm
  rw[hidx]
  refine⟨by omega,⟨r,_,rfl,hrl⟩,⟨by omega,by omega⟩,zo.of_eq (congrArg (V.int .i64) ?_)⟩
  rw[Int.toNat_natCast]
  rfl
 case complain =>
  have hvl:e.vals.length=2:=hvl
  have hnl:e.names.length=2:=hnl
  simp only[f185]
  rw[zb (Nat.le_of_ble_eq_true rfl)]
  simp(maxSteps:=4000000) only[go_sem,↓zj,↓reduceIte,encEv,zg,zh,zf,wg,zZ,zM,wq,zX,zP,D,kdB]
  have hv1:=(hbd _ (wd (show 1 < e.vals.length by omega))).1
  refine⟨by omega,zo.of_eq (congrArg (V.int .i64) ?_)⟩
  rw[show err (decide ((1440:Int)≤el e.vals 1)) 3=rng (el e.vals 1) 0 1439 from zkY (M:=1439) hv1,show ((64:Int))=((64:Nat):Int) from rfl,zcp hg.nc]
  rfl
 case answer =>
  have hvl:e.vals.length=1:=hvl
  have hnl:e.names.length=2:=hnl
  simp only[f185]
  rw[zb (Nat.le_of_ble_eq_true rfl)]
  simp(maxSteps:=4000000) only[go_sem,↓zj,↓reduceIte,encEv,zg,zh,zf,wg,zZ,zM,wq,zX,zP,D,kdB]
  have hm:el e.names 0∈r.namesOf 99:=we hkn (i:=0) (by decide) (by decide)
  have hpl:zO (r.namesOf 99) (el e.names 0) < r.complaints.length:=zU (f:=Co.name) hm
  have hidx:=yz hm
  have hco:=hAn _ (wd hpl)
  have hm2:el e.names 1∈r.namesOf 102:=we hkn (i:=1) (by decide) (by decide)
  have hpl2:zO (r.namesOf 102) (el e.names 1) < r.flights.length:=zU (f:=Fl.name) hm2
  have hidx2:=yz hm2
  rw[hidx,hidx2]
  refine⟨by omega,⟨r,_,rfl,hrl⟩,⟨by omega,by omega⟩,by omega,⟨r,_,rfl,hrl⟩,⟨by omega,by omega⟩,zo.of_eq (congrArg (V.int .i64) ?_)⟩
  rw[Int.toNat_natCast,Int.toNat_natCast,zgG hco,← decide_not]
  rfl
 case dismiss =>
  have hvl:e.vals.length=1:=hvl
  have hnl:e.names.length=1:=hnl
  simp only[f185]
  rw[zb (Nat.le_of_ble_eq_true rfl)]
  simp(maxSteps:=4000000) only[go_sem,↓zj,↓reduceIte,encEv,zg,zh,zf,wg,zZ,zM,wq,zX,zP,D,kdB]
  have hm:el e.names 0∈r.namesOf 99:=we hkn (i:=0) (by decide) (by decide)
  have hpl:zO (r.namesOf 99) (el e.names 0) < r.complaints.length:=zU (f:=Co.name) hm
  have hidx:=yz hm
  have hco:=hAn _ (wd hpl)
  rw[hidx]
  refine⟨by omega,⟨r,_,rfl,hrl⟩,⟨by omega,by omega⟩,⟨r,_,rfl,hrl⟩,zo.of_eq (congrArg (V.int .i64) ?_)⟩
  rw[Int.toNat_natCast,zgG hco]
  rfl
 case undo =>
  exact absurd rfl hu
theorem zeT:Holds prog G0 96 qi:=by
 refine Holds.of_exC D96 func96 rfl zK (by kernel_rfl) (tab [(29,w7),(30,yf),(184,kF),(185,kE),(zm 5,zG),(zm 7,zG)]) (zk ⟨kJ,jI,zl8,rRule_ok,za,za,trivial⟩) zw fun k0 rl args hpu hpre=>?_
 unfold qi at hpre ⊢
 obtain⟨cl,r,n,e,rfl,hn,hcl,hg,hh,ha,he⟩:=hpre
 simp only[zE,zV,zb3,znr,zq,zN,wH,wF,wv]
 obtain⟨k,hk,hnm,hvl,hbd,-⟩:=jV he
 have hdu:=y8 hk .undo
 by_cases c1:e.num=(n:Int)+1
 ·have d1:decide (e.num=(n:Int)+1)=true:=decide_eq_true c1
  by_cases hu:k=.undo
  ·subst hu
   have hdu:decide (e.kind=[117,110,100,111])=true:=hdu
   by_cases c2:cl.length=0
   ·have d2:decide ((cl.length:Int)=0)=true:=decide_eq_true (by omega)
    obtain rfl:=List.length_eq_zero_iff.1 c2
    rw[zny c1 hk]
    simp only[f96]
    rw[zb (Nat.le_of_ble_eq_true rfl)]
    simp(maxSteps:=4000000) only[go_sem,↓zj,↓reduceIte,encEv,zf,d1,hdu,d2]
    exact⟨zn (by omega) (by omega),zo.refl _⟩
   ·have d2:decide ((cl.length:Int)=0)=false:=decide_eq_false (by omega)
    rw[znx c1 hk (by omega)]
    have htn:((cl.length:Int) - 1).toNat=cl.length - 1:=by omega
    cases b1:decide ((el cl (cl.length - 1)).kind=[112,117,98,108,105,115,104]) <;> cases b2:decide ((el cl (cl.length - 1)).kind=[112,97,121])
    all_goals
     simp only[f96]
     rw[zb (Nat.le_of_ble_eq_true rfl)]
     simp(maxSteps:=4000000) only[go_sem,↓zj,↓reduceIte,encEv,zf,d1,hdu,d2,htn,b1,b2]
     exact⟨zn (by omega) (by omega),zn (by omega) (by omega),⟨by omega,by omega⟩,zo.of_eq rfl⟩
  ·have hdu:decide (e.kind=[117,110,100,111])=false:=by
    cases k <;> first | exact hdu | exact absurd rfl hu
   rw[acc_some c1 hk hu]
   have hv0:0 < e.vals.length:=by
    rw[hvl]
    cases k <;> first | decide | exact absurd rfl hu
   have hkd:kdOf e=k:=by unfold kdOf;rw[hk];rfl
   by_cases c3:el e.vals 0 < r.day
   ·have d3:decide (el e.vals 0 < r.day)=true:=decide_eq_true c3
    have f22:∀ b,zv [err true 22,b]=22:=fun b=>rfl
    rw[if_pos c3]
    simp only[f96]
    rw[zb (Nat.le_of_ble_eq_true rfl)]
    simp(maxSteps:=4000000) only[go_sem,↓zj,↓reduceIte,encEv,zg,zh,d1,hdu,d3,f22]
    exact⟨zn (by omega) (by omega),by omega,⟨r,e,k,rfl,hg.rl,hk,hu,hnm⟩,zo.refl _⟩
   ·have d3:decide (el e.vals 0 < r.day)=false:=decide_eq_false c3
    have f22:∀ b,zv [err false 22,b]=b:=fun b=>by
     show (if b≠0 then b else 0)=b
     split <;> omega
    rw[if_neg c3]
    by_cases c4:knownE r e k=0
    ·have d4:decide (knownE r e k=0)=true:=decide_eq_true c4
     rw[if_neg (fun q=>q c4)]
     simp only[f96]
     rw[zb (Nat.le_of_ble_eq_true rfl)]
     simp(maxSteps:=4000000) only[go_sem,↓zj,↓reduceIte,encEv,zg,zh,d1,hdu,d3,f22,d4,hkd]
     exact⟨zn (by omega) (by omega),by omega,⟨r,e,k,rfl,hg.rl,hk,hu,hnm⟩,⟨r,e,k,rfl,⟨hg,hh,hk,hu,hnm,hvl,hbd,c4⟩,ha⟩,zo.refl _⟩
    ·have d4:decide (knownE r e k=0)=false:=decide_eq_false c4
     rw[if_pos c4]
     simp only[f96]
     rw[zb (Nat.le_of_ble_eq_true rfl)]
     simp(maxSteps:=4000000) only[go_sem,↓zj,↓reduceIte,encEv,zg,zh,d1,hdu,d3,f22,d4,hkd]
     exact⟨zn (by omega) (by omega),by omega,⟨r,e,k,rfl,hg.rl,hk,hu,hnm⟩,zo.refl _⟩
 ·have d1:decide (e.num=(n:Int)+1)=false:=decide_eq_false c1
  rw[acc_num c1]
  simp only[f96]
  rw[zb (Nat.le_of_ble_eq_true rfl)]
  simp(maxSteps:=4000000) only[go_sem,↓zj,↓reduceIte,encEv,d1]
  exact⟨zn (by omega) (by omega),zo.refl _⟩
theorem wU {Γ:FuncId→Option Contract}{r0:Option Nat}{k0:K}{H:Heap}{ck:Nat}{Kn:V→Heap→Nat→Prop}(hX:(⟨prog,Γ,G0,r0,k0⟩:Cx).Ok){r:Reg}(hr:RL r)(hf:∀ q:Loc,ck < q.1→H q=none)
 (hKn:∀ ck',ck+1+1+1+1+1+1+1+1≤ck'→Kn (.agg [.int .i64 r.day,.msl (ck+1+1+1,3) 0 r.types.length,.msl (ck+1+1+1+1,8) 0 r.houses.length,.msl (ck+1+1+1+1+1,13) 0 r.flights.length,.msl (ck+1+1+1+1+1+1,18) 0 r.maps.length,.msl (ck+1+1+1+1+1+1+1,23) 0 r.offers.length,.msl (ck+1+1+1+1+1+1+1+1,28) 0 r.complaints.length,.int .i64 r.fund]) (updH (updH (updH (updH (updH (updH (H) (ck+1+1+1,3) (.arr r.types.length 3 fun i=>wg (el r.types i))) (ck+1+1+1+1,8) (.arr r.houses.length 2 fun i=>zZ (el r.houses i))) (ck+1+1+1+1+1,13) (.arr r.flights.length 5 fun i=>zM (el r.flights i))) (ck+1+1+1+1+1+1,18) (.arr r.maps.length 3 fun i=>wq (el r.maps i))) (ck+1+1+1+1+1+1+1,23) (.arr r.offers.length 4 fun i=>zX (el r.offers i))) (ck+1+1+1+1+1+1+1+1,28) (.arr r.complaints.length 6 fun i=>zP (el r.complaints i))) ck') :
 zp ⟨prog,Γ,G0,r0,k0⟩ H ck 190 [.agg (zt r)] Kn:=by
 have f1:=fun d=>hf (ck+1,d) (by show ck < ck+1;omega)
 have f2:=fun d=>hf (ck+1+1,d) (by show ck < ck+1+1;omega)
 have f3:=fun d=>hf (ck+1+1+1,d) (by show ck < ck+1+1+1;omega)
 have f4:=fun d=>hf (ck+1+1+1+1,d) (by show ck < ck+1+1+1+1;omega)
 have f5:=fun d=>hf (ck+1+1+1+1+1,d) (by show ck < ck+1+1+1+1+1;omega)
 have f6:=fun d=>hf (ck+1+1+1+1+1+1,d) (by show ck < ck+1+1+1+1+1+1;omega)
 have f7:=fun d=>hf (ck+1+1+1+1+1+1+1,d) (by show ck < ck+1+1+1+1+1+1+1;omega)
 have f8:=fun d=>hf (ck+1+1+1+1+1+1+1+1,d) (by show ck < ck+1+1+1+1+1+1+1+1;omega)
 have f9:=fun d=>hf (ck+1+1+1+1+1+1+1+1+1,d) (by show ck < ck+1+1+1+1+1+1+1+1+1;omega)
 obtain⟨b1,b2,b3,b4,b5,b6⟩:=id hr
 refine zp.less (zp.inline hX func190 rfl zK (D:=D190) (by kernel_rfl) (tab [(yJ 6,zG),(yJ 11,zG),(yJ 16,zG),(yJ 21,zG),(yJ 26,zG),(yJ 31,zG)]) (zk ⟨za,za,za,za,za,za,trivial⟩) fun k1=>?_)
 simp only[f190]
 rw[zA (Nat.le_of_ble_eq_true rfl)]
 simp(maxSteps:=400000) only[go_sem,↓zj,↓reduceIte,zt,zf,f1,f2,f3,f4,f5,f6,f7,f8,f9]
 have hz:∀ n:Nat,0+n=n:=Nat.zero_add
 refine⟨⟨by omega,by omega,?_⟩,⟨by omega,by omega,?_⟩,⟨by omega,by omega,?_⟩,⟨by omega,by omega,?_⟩,⟨by omega,by omega,?_⟩,⟨by omega,by omega,?_⟩,?_⟩
 ·exact fun i _ v hv=>⟨.inl (jK _ v hv).1,(jK _ v hv).2⟩
 ·exact fun i _ v hv=>⟨.inl (qm _ v hv).1,(qm _ v hv).2⟩
 ·exact fun i _ v hv=>⟨.inl (vN _ v hv).1,(vN _ v hv).2⟩
 ·exact fun i _ v hv=>⟨.inl (zao _ v hv).1,(zao _ v hv).2⟩
 ·exact fun i _ v hv=>⟨.inl (jL _ v hv).1,(jL _ v hv).2⟩
 ·exact fun i _ v hv=>⟨.inl (vO _ v hv).1,(vO _ v hv).2⟩
 simp only[hz]
 refine⟨_,?_,hKn _ (by omega)⟩
 refine zy.upd (zy.upd (zy.upd (zy.upd (zy.upd (zy.upd (hpLe_up hf fun q hq=>?_) ?_) ?_) ?_) ?_) ?_) ?_
 ·repeat rw[zc (by rintro rfl;simp only at hq;omega)]
 all_goals exact⟨_,by(repeat (first | exact zd _ _ _ | rw[zc (by simp)])),by(exact⟨rfl,rfl,fun i hi=>by simp⟩)⟩
end Go.Fly.Tryz
end
