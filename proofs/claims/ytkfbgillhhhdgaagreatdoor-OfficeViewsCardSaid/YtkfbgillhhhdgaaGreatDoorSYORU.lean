/- The reference of the office: what an event does. -/
import Derived.Test.YtkfbgillhhhdgaaGreatDoorSYORT
set_option linter.unusedSimpArgs false
set_option linter.unusedVariables false
set_option maxRecDepth 100000
set_option maxHeartbeats 1000000
namespace Go.Fly.Tryz
open Go Off Go.Proofs.Tryz
theorem zcI {r:Reg}{d:Int}(h:RL r):RL { r with day:=d }:=by
 obtain⟨a,b,c,d,e,f⟩:=h
 exact⟨a,b,c,d,e,f⟩
theorem zjP {r:Reg}{d:Int}(h:Off.Good r){i:Nat}(hi:i < r.houses.length):ChainOk { r with day:=d } (el r.houses i).share :=
 ⟨zcI h.rl,h.tys,h.fls,h.nf,h.hos _ (wd hi)⟩
theorem zmq {S H:Heap}(h:∀ q o,H q=some o→S q=some o):zy S H:=fun q o ho=>⟨o,h q o ho,ObjLe.refl o⟩
theorem zdy {cells:List V}{sz:Nat}(hl:cells.length=sz)(h:∀ v∈cells,Pu v∧jM v=true):∀ i,i < 1→∀ v,v∈wa cells sz i→(Pu v∨jg v=true)∧jM v=true:=fun i hi v hv=>wG hl h i hi v (by rw[Nat.zero_add];exact hv)
theorem j1 (l:List Ty):zi qb (.sl l.length 3 fun i=>wg (el l i))=l:=zcd l
theorem j4 (l:List Ho):zi jj (.sl l.length 2 fun i=>zZ (el l i))=l:=zce l
theorem j5 (l:List Fl):zi qc (.sl l.length 5 fun i=>zM (el l i))=l:=zcg l
theorem j3 (l:List Mp):zi za8 (.sl l.length 3 fun i=>wq (el l i))=l:=zee l
theorem j2 (l:List Of):zi qy (.sl l.length 4 fun i=>zX (el l i))=l:=zaz l
theorem j6 (l:List Co):zi jl (.sl l.length 6 fun i=>zP (el l i))=l:=zaB l
theorem rowFl {l:List Fl}{p i:Nat}{v:Int}(hi:i < l.length):(if i=p then (zM (el l p)).set 4 (.int .i64 v) else zM (el l i))=zM (el (l.modify p fun f=>{ f with heard:=v }) i):=by
 rw[jy _ _ _ hi]
 split
 ·rename_i q;subst q;rfl
 ·rfl
theorem rowTy {l:List Ty}{p i:Nat}{v:Int}(hi:i < l.length):(if i=p then (wg (el l p)).set 2 (.int .i64 v) else wg (el l i))=wg (el (l.modify p fun t=>{ t with factor:=v }) i):=by
 rw[jy _ _ _ hi]
 split
 ·rename_i q;subst q;rfl
 ·rfl
theorem rowOf {l:List Of}{p i:Nat}(hi:i < l.length):(if i=p then (zX (el l p)).set 3 (.bool true) else zX (el l i))=zX (el (l.modify p fun x=>{ x with paid:=true }) i):=by
 rw[jy _ _ _ hi]
 split
 ·rename_i q;subst q;rfl
 ·rfl
theorem rowCo2 {l:List Co}{p i:Nat}{v:Int}{s:Str}(hi:i < l.length):(if i=p then ((zP (el l p)).set 5 (.int .i64 v)).set 4 (.str s) else if i=p then (zP (el l p)).set 5 (.int .i64 v) else zP (el l i))=zP (el (l.modify p fun x=>{ x with flight:=s,answered:=v }) i):=by
 rw[jy _ _ _ hi]
 split
 ·rename_i q;subst q;rfl
 ·rfl
theorem rowCo {l:List Co}{p i:Nat}{v:Int}(hi:i < l.length):(if i=p then (zP (el l p)).set 5 (.int .i64 v) else zP (el l i))=zP (el (l.modify p fun x=>{ x with answered:=v }) i):=by
 rw[jy _ _ _ hi]
 split
 ·rename_i q;subst q;rfl
 ·rfl
theorem zbK:Holds prog G0 107 jq:=by
 refine Holds.of_exC D107 func107 rfl zK (by kernel_rfl) (tab [(33,zdI),(50,yd 116),(142,yd 111),(143,yd 99),(191,yd 102),(zm 3,zG),(wi 10,zG),(yJ 31,zG),(yJ 49,zG),(yJ 75,zG),(yJ 165,zG),(yJ 228,zG)]) (zk ⟨znP,zak,qZ,ka,qj,za,za,za,za,za,za,za,trivial⟩) zw fun k0 rl args hpu hpre=>?_
 unfold jq at hpre ⊢
 obtain⟨r,e,k,rfl,hg,hacc⟩:=hpre
 simp only[zE,zV,zq,zN,wH]
 have hk:=hacc.kind
 obtain⟨hnm,hvl,hbd⟩:=hacc.facts
 rw[wJ hk]
 have D:=ze2 hk
 cases k
 case type =>
  have hvl:e.vals.length=2:=hvl
  have hnm:e.names.length=1:=hnm
  simp only[f107]
  rw[zb (Nat.le_of_ble_eq_true rfl)]
  simp(maxSteps:=4000000) only[go_sem,↓zj,↓zC,↓zJ,↓reduceIte,encEv,zg,zh,D,kdB]
  refine .inl fun hX2=>wh (zy.refl _) (wk _) (wU hX2 hg.rl (fun q hq=>by repeat rw[zc (by rintro rfl;simp only at hq;omega)]) fun ck' hck'=>?_)
  simp(maxSteps:=400000) only[go_sem,↓zj,↓zC,↓zJ,↓reduceIte,zt,D,kdB]
  have hcap:=hg.nt
  have hrow:=wG rfl (jK ⟨el e.names 0,el e.vals 1,1000⟩)
  (repeat' apply And.intro) <;> first | omega | exact hrow | skip
  simp only[Nat.zero_add,if_true]
  refine zo.agg ⟨zo.refl _,?_,zo.refl _,zo.refl _,zo.refl _,zo.refl _,zo.refl _,zo.refl _,trivial⟩
  show zo _ (zf 3 wg (r.types++[⟨el e.names 0,el e.vals 1,1000⟩]))
  unfold zf
  rw[List.length_append]
  refine zo.sl fun i hi=>?_
  have q:=vn (f:=wg) (sz:=3) (l:=r.types) (x:=⟨el e.names 0,el e.vals 1,1000⟩) rfl rfl hi
  rw[Nat.zero_add] at q
  have q:(if i < r.types.length then wg (el r.types i) else wa [V.str (el e.names 0),.int .i64 (el e.vals 1),.int .i64 1000] 3 (i - r.types.length))=_:=q.symm
  rw[q,ww (jK _).pu]
 case house =>
  have hvl:e.vals.length=2:=hvl
  have hnm:e.names.length=1:=hnm
  simp only[f107]
  rw[zb (Nat.le_of_ble_eq_true rfl)]
  simp(maxSteps:=4000000) only[go_sem,↓zj,↓zC,↓zJ,↓reduceIte,encEv,zg,zh,D,kdB]
  refine .inl fun hX2=>wh (zy.refl _) (wk _) (wU hX2 hg.rl (fun q hq=>by repeat rw[zc (by rintro rfl;simp only at hq;omega)]) fun ck' hck'=>?_)
  simp(maxSteps:=400000) only[go_sem,↓zj,↓zC,↓zJ,↓reduceIte,zt,D,kdB]
  have hcap:=hg.nh
  have hrow:=wG rfl (qm ⟨el e.names 0,el e.vals 1⟩)
  (repeat' apply And.intro) <;> first | omega | exact hrow | skip
  simp only[Nat.zero_add,if_true]
  refine zo.agg ⟨zo.refl _,zo.refl _,?_,zo.refl _,zo.refl _,zo.refl _,zo.refl _,zo.refl _,trivial⟩
  show zo _ (zf 2 zZ (r.houses++[⟨el e.names 0,el e.vals 1⟩]))
  unfold zf
  rw[List.length_append]
  refine zo.sl fun i hi=>?_
  have q:=vn (f:=zZ) (sz:=2) (l:=r.houses) (x:=⟨el e.names 0,el e.vals 1⟩) rfl rfl hi
  rw[Nat.zero_add] at q
  have q:(if i < r.houses.length then zZ (el r.houses i) else wa [V.str (el e.names 0),.int .i64 (el e.vals 1)] 2 (i - r.houses.length))=_:=q.symm
  rw[q,ww (qm _).pu]
 case flight =>
  have hvl:e.vals.length=2:=hvl
  have hnm:e.names.length=2:=hnm
  simp only[f107]
  rw[zb (Nat.le_of_ble_eq_true rfl)]
  simp(maxSteps:=4000000) only[go_sem,↓zj,↓zC,↓zJ,↓reduceIte,encEv,zg,zh,D,kdB]
  refine .inl fun hX2=>wh (zy.refl _) (wk _) (wU hX2 hg.rl (fun q hq=>by repeat rw[zc (by rintro rfl;simp only at hq;omega)]) fun ck' hck'=>?_)
  simp(maxSteps:=400000) only[go_sem,↓zj,↓zC,↓zJ,↓reduceIte,zt,D,kdB]
  have hcap:=hg.nf
  have hrow:=wG rfl (vN ⟨el e.names 0,el e.names 1,el e.vals 0,el e.vals 1,-1⟩)
  (repeat' apply And.intro) <;> first | omega | exact hrow | skip
  simp only[Nat.zero_add,if_true]
  refine zo.agg ⟨zo.refl _,zo.refl _,zo.refl _,?_,zo.refl _,zo.refl _,zo.refl _,zo.refl _,trivial⟩
  show zo _ (zf 5 zM (r.flights++[⟨el e.names 0,el e.names 1,el e.vals 0,el e.vals 1,-1⟩]))
  unfold zf
  rw[List.length_append]
  refine zo.sl fun i hi=>?_
  have q:=vn (f:=zM) (sz:=5) (l:=r.flights) (x:=⟨el e.names 0,el e.names 1,el e.vals 0,el e.vals 1,-1⟩) rfl rfl hi
  rw[Nat.zero_add] at q
  have q:(if i < r.flights.length then zM (el r.flights i) else wa [V.str (el e.names 0),.str (el e.names 1),.int .i64 (el e.vals 0),.int .i64 (el e.vals 1),.int .i64 (-1)] 5 (i - r.flights.length))=_:=q.symm
  rw[q,ww (vN _).pu]
 case offer =>
  have hvl:e.vals.length=2:=hvl
  have hnm:e.names.length=2:=hnm
  simp only[f107]
  rw[zb (Nat.le_of_ble_eq_true rfl)]
  simp(maxSteps:=4000000) only[go_sem,↓zj,↓zC,↓zJ,↓reduceIte,encEv,zg,zh,D,kdB]
  refine .inl fun hX2=>wh (zy.refl _) (wk _) (wU hX2 hg.rl (fun q hq=>by repeat rw[zc (by rintro rfl;simp only at hq;omega)]) fun ck' hck'=>?_)
  simp(maxSteps:=400000) only[go_sem,↓zj,↓zC,↓zJ,↓reduceIte,zt,D,kdB]
  have hcap:=hg.no
  have hrow:=wG rfl (jL ⟨el e.names 0,el e.names 1,el e.vals 1,false⟩)
  (repeat' apply And.intro) <;> first | omega | exact hrow | skip
  simp only[Nat.zero_add,if_true]
  refine zo.agg ⟨zo.refl _,zo.refl _,zo.refl _,zo.refl _,zo.refl _,?_,zo.refl _,zo.refl _,trivial⟩
  show zo _ (zf 4 zX (r.offers++[⟨el e.names 0,el e.names 1,el e.vals 1,false⟩]))
  unfold zf
  rw[List.length_append]
  refine zo.sl fun i hi=>?_
  have q:=vn (f:=zX) (sz:=4) (l:=r.offers) (x:=⟨el e.names 0,el e.names 1,el e.vals 1,false⟩) rfl rfl hi
  rw[Nat.zero_add] at q
  have q:(if i < r.offers.length then zX (el r.offers i) else wa [V.str (el e.names 0),.str (el e.names 1),.int .i64 (el e.vals 1),.bool false] 4 (i - r.offers.length))=_:=q.symm
  rw[q,ww (jL _).pu]
 case complain =>
  have hvl:e.vals.length=2:=hvl
  have hnm:e.names.length=2:=hnm
  simp only[f107]
  rw[zb (Nat.le_of_ble_eq_true rfl)]
  simp(maxSteps:=4000000) only[go_sem,↓zj,↓zC,↓zJ,↓reduceIte,encEv,zg,zh,D,kdB]
  refine .inl fun hX2=>wh (zy.refl _) (wk _) (wU hX2 hg.rl (fun q hq=>by repeat rw[zc (by rintro rfl;simp only at hq;omega)]) fun ck' hck'=>?_)
  simp(maxSteps:=400000) only[go_sem,↓zj,↓zC,↓zJ,↓reduceIte,zt,D,kdB]
  have hcap:=hg.nc
  have hrow:=wG rfl (vO ⟨el e.names 0,el e.names 1,el e.vals 0,el e.vals 1,[],-1⟩)
  (repeat' apply And.intro) <;> first | omega | exact hrow | skip
  simp only[Nat.zero_add,if_true]
  refine zo.agg ⟨zo.refl _,zo.refl _,zo.refl _,zo.refl _,zo.refl _,zo.refl _,?_,zo.refl _,trivial⟩
  show zo _ (zf 6 zP (r.complaints++[⟨el e.names 0,el e.names 1,el e.vals 0,el e.vals 1,[],-1⟩]))
  unfold zf
  rw[List.length_append]
  refine zo.sl fun i hi=>?_
  have q:=vn (f:=zP) (sz:=6) (l:=r.complaints) (x:=⟨el e.names 0,el e.names 1,el e.vals 0,el e.vals 1,[],-1⟩) rfl rfl hi
  rw[Nat.zero_add] at q
  have q:(if i < r.complaints.length then zP (el r.complaints i) else wa [V.str (el e.names 0),.str (el e.names 1),.int .i64 (el e.vals 0),.int .i64 (el e.vals 1),.str [],.int .i64 (-1)] 6 (i - r.complaints.length))=_:=q.symm
  rw[q,ww (vO _).pu]
 case fund =>
  have hvl:e.vals.length=2:=hvl
  simp only[f107]
  rw[zb (Nat.le_of_ble_eq_true rfl)]
  simp(maxSteps:=4000000) only[go_sem,↓zj,↓zC,↓zJ,↓reduceIte,encEv,zg,zh,D,kdB]
  refine .inl fun hX2=>wh (zy.refl _) (wk _) (wU hX2 hg.rl (fun q hq=>by repeat rw[zc (by rintro rfl;simp only at hq;omega)]) fun ck' hck'=>?_)
  simp(maxSteps:=400000) only[go_sem,↓zj,↓zC,↓zJ,↓reduceIte,zt,D,kdB]
  have hcap:=hg.fund
  have hv:=hbd _ (wd (show 1 < e.vals.length by omega))
  refine⟨by omega,by omega,zn (by omega) (by omega),?_⟩
  simp only[Nat.zero_add,if_true]
  exact zo.refl _
 case match_ =>
  have hvl:e.vals.length=2:=hvl
  have hnm:e.names.length=1:=hnm
  have hm:el e.names 0∈r.namesOf 102:=we hacc.known (i:=0) (by decide) (by decide)
  have hpl:zO (r.namesOf 102) (el e.names 0) < r.flights.length:=zU (f:=Fl.name) hm
  have hidx:zd5 (Reg.namesOf { day:=el e.vals 0,types:=r.types,houses:=r.houses,flights:=r.flights,maps:=r.maps,offers:=r.offers,complaints:=r.complaints,fund:=r.fund } 102) (el e.names 0)=((zO (r.namesOf 102) (el e.names 0):Nat):Int):=yz hm
  obtain⟨p,hp⟩:∃ p,p=zO (r.namesOf 102) (el e.names 0):=⟨_,rfl⟩
  rw[← hp] at hpl hidx
  have hpn:((p:Nat):Int).toNat=p:=Int.toNat_natCast p
  simp only[f107]
  rw[zb (Nat.le_of_ble_eq_true rfl)]
  simp(maxSteps:=4000000) only[go_sem,↓zj,↓zC,↓zJ,↓reduceIte,encEv,zg,zh,D,kdB]
  refine .inl fun hX2=>wh (zy.refl _) (wk _) (wU hX2 hg.rl (fun q hq=>by repeat rw[zc (by rintro rfl;simp only at hq;omega)]) fun ck' hck'=>?_)
  simp(maxSteps:=400000) only[go_sem,↓zj,↓zC,↓zJ,↓reduceIte,zt,Nat.zero_add,eq_self,j1,j4,j5,j3,j2,j6,hidx,hpn,D,kdB]
  refine⟨by omega,by omega,⟨{ r with day:=el e.vals 0 },_,rfl,zcI hg.rl⟩,by omega,⟨by omega,by omega⟩,?_⟩
  refine zo.agg ⟨zo.refl _,zo.refl _,zo.refl _,?_,zo.refl _,zo.refl _,zo.refl _,zo.refl _,trivial⟩
  subst hp
  show zo _ (zf 5 zM (r.flights.modify (zO (r.namesOf 102) (el e.names 0)) fun f=>{ f with heard:=el e.vals 1 }))
  unfold zf
  rw[List.length_modify]
  refine zo.sl fun i hi=>?_
  rw[rowFl hi,ww (vN _).pu]
 case correct =>
  have hvl:e.vals.length=2:=hvl
  have hnm:e.names.length=1:=hnm
  have hm:el e.names 0∈r.namesOf 116:=we hacc.known (i:=0) (by decide) (by decide)
  have hpl:zO (r.namesOf 116) (el e.names 0) < r.types.length:=zU (f:=Ty.name) hm
  have hidx:zd5 (Reg.namesOf { day:=el e.vals 0,types:=r.types,houses:=r.houses,flights:=r.flights,maps:=r.maps,offers:=r.offers,complaints:=r.complaints,fund:=r.fund } 116) (el e.names 0)=((zO (r.namesOf 116) (el e.names 0):Nat):Int):=yz hm
  obtain⟨p,hp⟩:∃ p,p=zO (r.namesOf 116) (el e.names 0):=⟨_,rfl⟩
  rw[← hp] at hpl hidx
  have hpn:((p:Nat):Int).toNat=p:=Int.toNat_natCast p
  simp only[f107]
  rw[zb (Nat.le_of_ble_eq_true rfl)]
  simp(maxSteps:=4000000) only[go_sem,↓zj,↓zC,↓zJ,↓reduceIte,encEv,zg,zh,D,kdB]
  refine .inl fun hX2=>wh (zy.refl _) (wk _) (wU hX2 hg.rl (fun q hq=>by repeat rw[zc (by rintro rfl;simp only at hq;omega)]) fun ck' hck'=>?_)
  simp(maxSteps:=400000) only[go_sem,↓zj,↓zC,↓zJ,↓reduceIte,zt,Nat.zero_add,eq_self,j1,j4,j5,j3,j2,j6,hidx,hpn,D,kdB]
  refine⟨by omega,by omega,⟨{ r with day:=el e.vals 0 },_,rfl,zcI hg.rl⟩,by omega,⟨by omega,by omega⟩,?_⟩
  refine zo.agg ⟨zo.refl _,?_,zo.refl _,zo.refl _,zo.refl _,zo.refl _,zo.refl _,zo.refl _,trivial⟩
  subst hp
  show zo _ (zf 3 wg (r.types.modify (zO (r.namesOf 116) (el e.names 0)) fun f=>{ f with factor:=el e.vals 1 }))
  unfold zf
  rw[List.length_modify]
  refine zo.sl fun i hi=>?_
  rw[rowTy hi,ww (jK _).pu]
 case pay =>
  have hvl:e.vals.length=1:=hvl
  have hnm:e.names.length=1:=hnm
  have hm:el e.names 0∈r.namesOf 111:=we hacc.known (i:=0) (by decide) (by decide)
  have hpl:zO (r.namesOf 111) (el e.names 0) < r.offers.length:=zU (f:=Of.name) hm
  have hidx:zd5 (Reg.namesOf { day:=el e.vals 0,types:=r.types,houses:=r.houses,flights:=r.flights,maps:=r.maps,offers:=r.offers,complaints:=r.complaints,fund:=r.fund } 111) (el e.names 0)=((zO (r.namesOf 111) (el e.names 0):Nat):Int):=yz hm
  obtain⟨p,hp⟩:∃ p,p=zO (r.namesOf 111) (el e.names 0):=⟨_,rfl⟩
  rw[← hp] at hpl hidx
  have hpn:((p:Nat):Int).toNat=p:=Int.toNat_natCast p
  have hpay:∀ x:Of,(List.drop 2 ((zX x).set 3 (.bool true))).head?=some (V.int .i64 x.amount):=fun x=>rfl
  simp only[f107]
  rw[zb (Nat.le_of_ble_eq_true rfl)]
  simp(maxSteps:=4000000) only[go_sem,↓zj,↓zC,↓zJ,↓reduceIte,encEv,zg,zh,D,kdB]
  refine .inl fun hX2=>wh (zy.refl _) (wk _) (wU hX2 hg.rl (fun q hq=>by repeat rw[zc (by rintro rfl;simp only at hq;omega)]) fun ck' hck'=>?_)
  simp(maxSteps:=400000) only[go_sem,↓zj,↓zC,↓zJ,↓reduceIte,zt,Nat.zero_add,eq_self,j1,j4,j5,j3,j2,j6,hidx,hpn,hpay,D,kdB]
  have hfd:=hg.fund
  have hck:=hacc.check
  simp only[checkK,wb,List.mem_cons,List.not_mem_nil,or_false,forall_eq_or_imp,forall_eq,w4 (e:=23) (by decide),w4 (e:=16) (by decide),decide_eq_false_iff_not] at hck
  have hle:¬ r.fund < (el r.offers p).amount:=by rw[hp];exact hck.2
  have ham:=hg.ofs _ (wd hpl)
  refine⟨by omega,by omega,⟨{ r with day:=el e.vals 0 },_,rfl,zcI hg.rl⟩,⟨by omega,by omega⟩,⟨by omega,by omega⟩,zn (by omega) (by omega),?_⟩
  subst hp
  refine zo.agg ⟨zo.refl _,zo.refl _,zo.refl _,zo.refl _,zo.refl _,?_,zo.refl _,zo.refl _,trivial⟩
  show zo _ (zf 4 zX (r.offers.modify (zO (r.namesOf 111) (el e.names 0)) fun f=>{ f with paid:=true }))
  unfold zf
  rw[List.length_modify]
  refine zo.sl fun i hi=>?_
  rw[rowOf hi,ww (jL _).pu]
 case answer =>
  have hvl:e.vals.length=1:=hvl
  have hnm:e.names.length=2:=hnm
  have hm:el e.names 0∈r.namesOf 99:=we hacc.known (i:=0) (by decide) (by decide)
  have hpl:zO (r.namesOf 99) (el e.names 0) < r.complaints.length:=zU (f:=Co.name) hm
  have hidx:zd5 (Reg.namesOf { day:=el e.vals 0,types:=r.types,houses:=r.houses,flights:=r.flights,maps:=r.maps,offers:=r.offers,complaints:=r.complaints,fund:=r.fund } 99) (el e.names 0)=((zO (r.namesOf 99) (el e.names 0):Nat):Int):=yz hm
  obtain⟨p,hp⟩:∃ p,p=zO (r.namesOf 99) (el e.names 0):=⟨_,rfl⟩
  rw[← hp] at hpl hidx
  have hpn:((p:Nat):Int).toNat=p:=Int.toNat_natCast p
  simp only[f107]
  rw[zb (Nat.le_of_ble_eq_true rfl)]
  simp(maxSteps:=4000000) only[go_sem,↓zj,↓zC,↓zJ,↓reduceIte,encEv,zg,zh,D,kdB]
  refine .inl fun hX2=>wh (zy.refl _) (wk _) (wU hX2 hg.rl (fun q hq=>by repeat rw[zc (by rintro rfl;simp only at hq;omega)]) fun ck' hck'=>?_)
  simp(maxSteps:=400000) only[go_sem,↓zj,↓zC,↓zJ,↓reduceIte,zt,Nat.zero_add,eq_self,j1,j4,j5,j3,j2,j6,hidx,hpn,D,kdB]
  refine⟨by omega,by omega,⟨{ r with day:=el e.vals 0 },_,rfl,zcI hg.rl⟩,by omega,⟨by omega,by omega⟩,by omega,⟨by omega,by omega⟩,?_⟩
  refine zo.agg ⟨zo.refl _,zo.refl _,zo.refl _,zo.refl _,zo.refl _,zo.refl _,?_,zo.refl _,trivial⟩
  subst hp
  show zo _ (zf 6 zP (r.complaints.modify (zO (r.namesOf 99) (el e.names 0)) fun f=>{ f with flight:=el e.names 1,answered:=el e.vals 0 }))
  unfold zf
  rw[List.length_modify]
  refine zo.sl fun i hi=>?_
  rw[rowCo2 hi,ww (vO _).pu]
 case dismiss =>
  have hvl:e.vals.length=1:=hvl
  have hnm:e.names.length=1:=hnm
  have hm:el e.names 0∈r.namesOf 99:=we hacc.known (i:=0) (by decide) (by decide)
  have hpl:zO (r.namesOf 99) (el e.names 0) < r.complaints.length:=zU (f:=Co.name) hm
  have hidx:zd5 (Reg.namesOf { day:=el e.vals 0,types:=r.types,houses:=r.houses,flights:=r.flights,maps:=r.maps,offers:=r.offers,complaints:=r.complaints,fund:=r.fund } 99) (el e.names 0)=((zO (r.namesOf 99) (el e.names 0):Nat):Int):=yz hm
  obtain⟨p,hp⟩:∃ p,p=zO (r.namesOf 99) (el e.names 0):=⟨_,rfl⟩
  rw[← hp] at hpl hidx
  have hpn:((p:Nat):Int).toNat=p:=Int.toNat_natCast p
  simp only[f107]
  rw[zb (Nat.le_of_ble_eq_true rfl)]
  simp(maxSteps:=4000000) only[go_sem,↓zj,↓zC,↓zJ,↓reduceIte,encEv,zg,zh,D,kdB]
  refine .inl fun hX2=>wh (zy.refl _) (wk _) (wU hX2 hg.rl (fun q hq=>by repeat rw[zc (by rintro rfl;simp only at hq;omega)]) fun ck' hck'=>?_)
  simp(maxSteps:=400000) only[go_sem,↓zj,↓zC,↓zJ,↓reduceIte,zt,Nat.zero_add,eq_self,j1,j4,j5,j3,j2,j6,hidx,hpn,D,kdB]
  refine⟨by omega,by omega,⟨{ r with day:=el e.vals 0 },_,rfl,zcI hg.rl⟩,by omega,⟨by omega,by omega⟩,?_⟩
  refine zo.agg ⟨zo.refl _,zo.refl _,zo.refl _,zo.refl _,zo.refl _,zo.refl _,?_,zo.refl _,trivial⟩
  subst hp
  show zo _ (zf 6 zP (r.complaints.modify (zO (r.namesOf 99) (el e.names 0)) fun f=>{ f with answered:=el e.vals 0 }))
  unfold zf
  rw[List.length_modify]
  refine zo.sl fun i hi=>?_
  rw[rowCo hi,ww (vO _).pu]
 case publish =>
  have hvl:e.vals.length=1:=hvl
  have hnm:e.names.length=1:=hnm
  simp only[f107]
  rw[zb (Nat.le_of_ble_eq_true rfl)]
  simp(maxSteps:=4000000) only[go_sem,↓zj,↓zC,↓zJ,↓reduceIte,encEv,zg,zh,D,kdB]
  refine .inl fun hX2=>wh (zy.refl _) (wk _) (wU hX2 hg.rl (fun q hq=>by repeat rw[zc (by rintro rfl;simp only at hq;omega)]) fun ck' hck'=>?_)
  simp(maxSteps:=400000) only[go_sem,↓zj,↓zC,↓zJ,↓reduceIte,zt,Nat.zero_add,eq_self,j1,j4,j5,j3,j2,j6,D,kdB]
  have hcap:=hg.nm
  have hnh:=hg.nh
  refine⟨by omega,?_⟩
  generalize hH0:updH (updH (updH _ (12,28) _) (2,2) _) (2,2) _=H0
  have b2:H0 (2,2)=some (.cells [.int .i64 (el e.vals 0),.msl (7,3) 0 r.types.length,.msl (8,8) 0 r.houses.length,.msl (9,13) 0 r.flights.length,.msl (10,18) 0 r.maps.length,.msl (11,23) 0 r.offers.length,.msl (12,28) 0 r.complaints.length,.int .i64 r.fund]):=by
   rw[← hH0];exact zd _ _ _
  have b4:H0 (2,4)=some (.cells [.int .i64 0,.nils,.nils,.nils,.nils,.nils,.nils,.int .i64 0]):=by
   rw[← hH0];repeat (first | exact zd _ _ _ | rw[zc (by simp)])
  have t7:H0 (7,3)=some (.arr r.types.length 3 fun i=>wg (el r.types i)):=by
   rw[← hH0];repeat (first | exact zd _ _ _ | rw[zc (by simp)])
  have t8:H0 (8,8)=some (.arr r.houses.length 2 fun i=>zZ (el r.houses i)):=by
   rw[← hH0];repeat (first | exact zd _ _ _ | rw[zc (by simp)])
  have t9:H0 (9,13)=some (.arr r.flights.length 5 fun i=>zM (el r.flights i)):=by
   rw[← hH0];repeat (first | exact zd _ _ _ | rw[zc (by simp)])
  have t10:H0 (10,18)=some (.arr r.maps.length 3 fun i=>wq (el r.maps i)):=by
   rw[← hH0];repeat (first | exact zd _ _ _ | rw[zc (by simp)])
  have t11:H0 (11,23)=some (.arr r.offers.length 4 fun i=>zX (el r.offers i)):=by
   rw[← hH0];repeat (first | exact zd _ _ _ | rw[zc (by simp)])
  have t12:H0 (12,28)=some (.arr r.complaints.length 6 fun i=>zP (el r.complaints i)):=by
   rw[← hH0];repeat (first | exact zd _ _ _ | rw[zc (by simp)])
  have hfr:∀ q:Loc,12 < q.1→H0 q=none:=fun q hq=>by
   rw[← hH0];repeat (first | rfl | rw[zc (by rintro rfl;simp at hq)])
  have hno:∀ c,H0 (c,1000)=none:=fun c=>by
   rw[← hH0];repeat (first | rfl | rw[zc (by simp)])
  refine zB.ents (wu.nilArr (d:=5) (l:=(ck'+1+1+1+1+1+1+1+1+1,1000)) 1 (fun _=>[]) (by exact rfl) (by exact hno _) (by exact rfl)) ?_
  generalize hC:ck'+1+1+1+1+1+1+1+1+1=C
  simp(maxSteps:=400000) only[go_sem,↓zj,↓zC,↓zJ,↓reduceIte]
  refine zB.loopG (β:=Nat) [(5,6),(117,129)] (fun i=>[(5,.msl (C,1000) 0 i),(6,.int .i64 i)]) (fun i=>updH H0 (C,1000) (.arr i 1 fun j=>[.int .i64 (el (r.houses.map (r.level levelE)) j)])) (fun _ i=>i≤r.houses.length) (fun i=>r.houses.length - i) 0 (Nat.zero_le _) ?_ (zy.same ⟨rfl,rfl,fun i hi=>absurd hi (Nat.not_lt_zero i)⟩) ?_
  ·simp(maxSteps:=400000) only[go_sem,↓zj]
   try exact⟨rfl,rfl⟩
  ·intro c i hcc hi
   have hi:i≤r.houses.length:=hi
   have g0:=fun d=>hfr (c,d) (by show 12 < c;omega)
   have g1:=fun d=>hfr (c+1,d) (by show 12 < c+1;omega)
   have g2:=fun d=>hfr (c+1+1,d) (by show 12 < c+1+1;omega)
   have g3:=fun d=>hfr (c+1+1+1,d) (by show 12 < c+1+1+1;omega)
   have g4:=fun d=>hfr (c+1+1+1+1,d) (by show 12 < c+1+1+1+1;omega)
   generalize hq0:exC _ _ _ _ _=gg
   by_cases hlt:i < r.houses.length
   ·have hd:decide ((i:Int) < (r.houses.length:Int))=true:=decide_eq_true (by omega)
    rw[← hq0]
    clear hq0
    simp(maxSteps:=400000) only[go_sem,↓zj,↓zC,↓zJ,↓reduceIte,hd,b2,b4,t7,t8,t9,t10,t11,t12,g0,g1,g2,g3,g4,Nat.zero_add,eq_self,j1,j4,j5,j3,j2,j6]
    have hlv:V.int .i64 (Reg.level levelE { day:=el e.vals 0,types:=r.types,houses:=r.houses,flights:=r.flights,maps:=r.maps,offers:=r.offers,complaints:=r.complaints,fund:=r.fund } (el r.houses i))=.int .i64 (el (r.houses.map (r.level levelE)) i):=by
     rw[vD _ _ hlt];rfl
    rw[hlv]
    refine⟨⟨{ r with day:=el e.vals 0 },i,rfl,hlt,zjP hg hlt⟩,⟨by omega,by omega,zdy rfl (qG (n:=el (r.houses.map (r.level levelE)) i))⟩,zn (by omega) (by omega),by omega,i+1,hlt,by omega,⟨rfl,rfl⟩,?_⟩
    refine zy.upd (zmq fun q o ho=>?_) ⟨_,zd _ _ _,⟨rfl,rfl,fun j hj=>?_⟩⟩
    ·have hq:q.1≤12:=by
      apply Classical.byContradiction
      intro h
      rw[hfr q (by omega)] at ho
      cases ho
     repeat rw[zc (by rintro rfl;simp only at hq;omega)]
     exact ho
    ·have:=snoc (f:=fun j=>[V.int .i64 (el (r.houses.map (r.level levelE)) j)]) (sz:=1) (i:=i) rfl rfl hj
     rw[Nat.zero_add] at this
     exact this
   ·have hd:decide ((i:Int) < (r.houses.length:Int))=false:=decide_eq_false (by omega)
    obtain rfl:i=r.houses.length:=by omega
    rw[← hq0]
    clear hq0
    simp(maxSteps:=400000) only[go_sem,↓zj,↓zC,↓zJ,↓reduceIte,hd,b2,b4,t7,t8,t9,t10,t11,t12,Nat.zero_add,eq_self,j1,j4,j5,j3,j2,j6]
    refine⟨_,wu.kill (d:=5) (l:=(C,1000)) (n:=r.houses.length) (by exact rfl) (by exact zd _ _ _) (fun a b v _ hv=>by rw[List.mem_singleton.1 (List.mem_of_getElem? hv)];exact .int _ _),?_⟩
    simp(maxSteps:=400000) only[go_sem,↓zj,↓zC,↓zJ,↓reduceIte,hd,b2,b4,t7,t8,t9,t10,t11,t12,g0,g1,g2,g3,g4,Nat.zero_add,eq_self,j1,j4,j5,j3,j2,j6,D,kdB]
    have hml:zh (r.houses.map (r.level levelE))=.sl r.houses.length 1 fun j=>[.int .i64 (el (r.houses.map (r.level levelE)) j)]:=by
     unfold zh;rw[List.length_map]
    rw[← hml]
    refine⟨by omega,by omega,⟨by omega,by omega,zdy rfl (zao ⟨el e.names 0,el e.vals 0,r.houses.map (r.level levelE)⟩)⟩,?_⟩
    refine zo.agg ⟨zo.refl _,zo.refl _,zo.refl _,zo.refl _,?_,zo.refl _,zo.refl _,zo.refl _,trivial⟩
    show zo _ (zf 3 wq (r.maps++[⟨el e.names 0,el e.vals 0,r.houses.map (r.level levelE)⟩]))
    unfold zf
    rw[List.length_append]
    refine zo.sl fun i hi=>?_
    have q:=vn (f:=wq) (sz:=3) (l:=r.maps) (x:=⟨el e.names 0,el e.vals 0,r.houses.map (r.level levelE)⟩) rfl rfl hi
    rw[Nat.zero_add] at q
    have q:(if i < r.maps.length then wq (el r.maps i) else wa [V.str (el e.names 0),.int .i64 (el e.vals 0),zh (r.houses.map (r.level levelE))] 3 (i - r.maps.length))=_:=q.symm
    rw[q,ww (zao _).pu]
 case undo=>exact absurd rfl hacc.real
end Go.Fly.Tryz
