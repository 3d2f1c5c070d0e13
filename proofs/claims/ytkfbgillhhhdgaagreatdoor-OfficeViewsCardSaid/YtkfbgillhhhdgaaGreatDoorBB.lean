/- Part of a proof. No conditions. -/
import Derived.Test.YtkfbgillhhhdgaaGreatDoorBA
import Derived.Test.YtkfbgillhhhdgaaGreatDoorAS
import Derived.Test.YtkfbgillhhhdgaaGreatDoorAY
import Derived.Test.YtkfbgillhhhdgaaGreatDoorAQ
set_option linter.unusedSimpArgs false
set_option linter.unusedVariables false
section
namespace Go.Fly.Off
open Go
structure UqR (r:Reg):Prop where
 ty:(r.types.map (·.name)).Nodup
 ho:(r.houses.map (·.name)).Nodup
 fl:(r.flights.map (·.name)).Nodup
 mp:(r.maps.map (·.name)).Nodup
 of:(r.offers.map (·.name)).Nodup
 co:(r.complaints.map (·.name)).Nodup
theorem znB {r:Reg}{e:Ev}{k:Kd}(h:knownE r e k=0){i:Nat}(hi:i < k.letters.length)(hf:yU k.letters i=true):el e.names i∉r.namesOf (((el k.letters i).toNat:Int)+32):=by
 have:=(zjL h hi).2 hf
 unfold yP jQ at this
 rw[if_pos hf] at this
 exact of_decide_eq_false this
theorem znA {α:Type}{l:List α}{x:α}(h:l.Nodup)(hx:x∉l):(l++[x]).Nodup:=by
 rw[List.nodup_append]
 refine⟨h,by simp,fun a ha b hb=>?_⟩
 rw[List.mem_singleton] at hb
 subst hb
 rintro rfl
 exact hx ha
theorem Acc.uq {lv:Int→Int}{r:Reg}{e:Ev}{k:Kd}(h:Acc r e k)(hu:UqR r):UqR (w9 lv r e):=by
 rw[wJ h.kind]
 obtain⟨h1,h2,h3,h4,h5,h6⟩:=hu
 cases k
 case type =>
  have hn:=znB (i:=0) h.known (by decide) (by decide)
  refine⟨?_,h2,h3,h4,h5,h6⟩
  show ((r.types++[_]).map _).Nodup
  rw[List.map_append]
  exact znA h1 hn
 case house =>
  have hn:=znB (i:=0) h.known (by decide) (by decide)
  refine⟨h1,?_,h3,h4,h5,h6⟩
  show ((r.houses++[_]).map _).Nodup
  rw[List.map_append]
  exact znA h2 hn
 case flight =>
  have hn:=znB (i:=0) h.known (by decide) (by decide)
  refine⟨h1,h2,?_,h4,h5,h6⟩
  show ((r.flights++[_]).map _).Nodup
  rw[List.map_append]
  exact znA h3 hn
 case publish =>
  have hn:=znB (i:=0) h.known (by decide) (by decide)
  refine⟨h1,h2,h3,?_,h5,h6⟩
  show ((r.maps++[_]).map _).Nodup
  rw[List.map_append]
  exact znA h4 hn
 case offer =>
  have hn:=znB (i:=0) h.known (by decide) (by decide)
  refine⟨h1,h2,h3,h4,?_,h6⟩
  show ((r.offers++[_]).map _).Nodup
  rw[List.map_append]
  exact znA h5 hn
 case complain =>
  have hn:=znB (i:=0) h.known (by decide) (by decide)
  refine⟨h1,h2,h3,h4,h5,?_⟩
  show ((r.complaints++[_]).map _).Nodup
  rw[List.map_append]
  exact znA h6 hn
 case match_ =>
  refine⟨h1,h2,?_,h4,h5,h6⟩
  show ((r.flights.modify _ _).map _).Nodup
  rw[zbV (f:=(·.name)) (h:=fun f:Fl=>{ f with heard:=e.vl 1 }) (fun x=>rfl)]
  exact h3
 case correct =>
  refine⟨?_,h2,h3,h4,h5,h6⟩
  show ((r.types.modify _ _).map _).Nodup
  rw[zbV (f:=(·.name)) (h:=fun t:Ty=>{ t with factor:=e.vl 1 }) (fun x=>rfl)]
  exact h1
 case pay =>
  refine⟨h1,h2,h3,h4,?_,h6⟩
  show ((r.offers.modify _ _).map _).Nodup
  rw[zbV (f:=(·.name)) (h:=fun t:Of=>{ t with paid:=true }) (fun x=>rfl)]
  exact h5
 case answer =>
  refine⟨h1,h2,h3,h4,h5,?_⟩
  show ((r.complaints.modify _ _).map _).Nodup
  rw[zbV (f:=(·.name)) (h:=fun x:Co=>{ x with flight:=e.nm 1,answered:=e.vl 0 }) (fun x=>rfl)]
  exact h6
 case dismiss =>
  refine⟨h1,h2,h3,h4,h5,?_⟩
  show ((r.complaints.modify _ _).map _).Nodup
  rw[zbV (f:=(·.name)) (h:=fun x:Co=>{ x with answered:=e.vl 0 }) (fun x=>rfl)]
  exact h6
 case fund=>exact⟨h1,h2,h3,h4,h5,h6⟩
 case undo=>exact absurd rfl h.real
theorem Cnt.uq {lv:Int→Int}{l:List Ev}(h:Cnt lv l):∀ {i:Nat},i≤l.length→UqR (made lv (l.take i))
 | 0,_=>by
   rw[List.take_zero]
   exact⟨List.nodup_nil,List.nodup_nil,List.nodup_nil,List.nodup_nil,List.nodup_nil,List.nodup_nil⟩
 | i+1,hi=>by
   rw[vt lv l (by omega)]
   obtain⟨k,hk⟩:=h i (by omega)
   exact hk.uq (h.uq (by omega))
theorem HOk.uq {h:Hist}(q:HOk levelE h):UqR h.now:=by
 rw[q.now]
 have:=q.cnt.uq (Nat.le_refl h.counted.length)
 rwa [List.take_length] at this
theorem znE (l:List Ev):UqR (replayed levelE l).1.now:=(yS l).1.uq
theorem znD:∀ {l:List Str} {i:Nat},l.Nodup→(h:i < l.length)→zO l l[i]=i
 | x::l,0,_,_=>by
   unfold zO
   rw[List.findIdx_cons]
   simp
 | x::l,i+1,hn,h=>by
   rw[List.nodup_cons] at hn
   have hi:i < l.length:=by simpa using h
   have hne:x≠l[i]:=fun q=>hn.1 (q ▸ List.getElem_mem hi)
   have:=znD hn.2 hi
   unfold zO at this ⊢
   rw[List.findIdx_cons]
   simp only[List.getElem_cons_succ,decide_eq_false hne,cond_false]
   rw[this]
theorem zo1 {α:Type}[Inhabited α]{l:List α}{f:α→Str}(hn:(l.map f).Nodup){i:Nat}(h:i < l.length):zO (l.map f) (f (el l i))=i:=by
 have:=znD hn (i:=i) (by simpa using h)
 rw[List.getElem_map] at this
 rw[yp _ h]
 exact this
theorem place_eq {α:Type}[Inhabited α]{l:List α}{f:α→Str}(hn:(l.map f).Nodup){s:Str}(hs:s∈l.map f){j:Nat}(h:j < l.length):zO (l.map f) s=j↔s=f (el l j):=by
 constructor
 ·intro q
  obtain⟨i,hi,rfl⟩:=List.mem_iff_getElem.1 hs
  have hi2:i < l.length:=by simpa using hi
  rw[znD hn hi] at q
  subst q
  rw[List.getElem_map,yp _ h]
 ·rintro rfl
  exact zo1 hn h
def zo8 (l:List Ev):Prop:=l.length≤9223372036854775807∧∀ e∈l,EvLen e
def znJ:Contract:=fun _ args=>⟨∃ r,∃ i:Nat,args=[.agg (zt r),.int .i64 i]∧i < r.houses.length∧ChainOk r (el r.houses i).share∧UqR r,
 zf 2 wS ((wC (cellsOf (arg args 0))).byTypes (el (wC (cellsOf (arg args 0))).houses (wo (arg args 1)).toNat).share),none⟩
def znY:Contract:=fun _ args=>⟨∃ r,args=[.agg (zt r)]∧RL r∧LastOk r∧UqR r,zg (wC (cellsOf (arg args 0))).eligible,none⟩
def znX:Contract:=fun _ args=>⟨∃ r day,args=[.agg (zt r),.int .i64 day]∧RL r∧CoB r∧∀ c∈r.complaints,-1≤c.answered,zg ((wC (cellsOf (arg args 0))).lateL (wo (arg args 1))),none⟩
def znR (r:Reg)(h:Ho)(c:List It)(lv:Int):Int×Int :=
 match zaW c (r.chain h.share) 0 (max c.length (r.chain h.share).length) with
 | some i=>(i,19)
 | none=>((r.chain h.share).length,err (!decide (levelE (zbu (r.chain h.share))=lv)) 24)
def znQ:Contract:=fun _ args=>⟨∃ r,∃ i:Nat,∃ c lv,args=[.agg (zt r),.int .i64 i,zf 2 wS c,.int .i64 lv]∧i < r.houses.length∧ChainOk r (el r.houses i).share∧c.length≤1000000,
 .tup [.int .i64 (znR (wC (cellsOf (arg args 0))) (el (wC (cellsOf (arg args 0))).houses (wo (arg args 1)).toNat) (zi w6 (arg args 2)) (wo (arg args 3))).1,
  .int .i64 (znR (wC (cellsOf (arg args 0))) (el (wC (cellsOf (arg args 0))).houses (wo (arg args 1)).toNat) (zi w6 (arg args 2)) (wo (arg args 3))).2],none⟩
def znZ:Contract:=fun _ args=>⟨∃ n get e,args=[.sl n 1 get,.int .i64 e,.int .i64 e,.sl n 1 get]∧zb4 n get∧(e≠0→n=0),.bool true,none⟩
attribute [go_sem] znZ znJ znY znX znQ
theorem bt_cond {r:Reg}{share:Int}(h:ChainOk r share)(hu:UqR r){n j:Nat}(hn:n < r.flights.length)(hj:j < r.types.length) :
 decide ((el r.flights n).type=(el r.types j).name)=decide (zO (r.namesOf 116) (el r.flights n).type=j) :=
 decide_eq_decide.2 (place_eq (f:=Ty.name) hu.ty (h.flights _ (wd hn)) hj).symm
theorem zo7 {r:Reg}(hu:UqR r){i:Nat}(h:i < r.houses.length):r.listed (el r.houses i).name=r.pubAt i:=by
 have hp:zO (r.namesOf 104) (el r.houses i).name=i:=zo1 (f:=Ho.name) hu.ho h
 unfold Reg.listed Reg.pubAt
 rw[hp]
 rfl
theorem zo5 {c:Co}(h:-1≤c.answered):decide (c.answered < 0)=decide (c.answered=-1):=decide_eq_decide.2 (by omega)
def znC:Contract:=fun _ args=>⟨∃ a v,args=[zf 2 wS a,v]∧(v=zf 2 wS a∨v=.nils∧a=[])∧a.length≤1000000,.bool true,none⟩
def zo0:Contract:=fun _ args=>⟨∃ a e v,args=[zg a,.int .i64 e,.int .i64 e,v]∧(v=zg a∨v=.nils∧a=[])∧(e≠0→a=[])∧a.length≤1000000,.bool true,none⟩
attribute [go_sem] znC zo0
theorem two_vent {a v b:V}(h:zo v b):∀ (j:Nat) (x:V),[a,b][j]?=some x→∃ u,[a,v][j]?=some u∧zo u x:=fun j x hx=>by
 rcases j with _ | _ | j
 ·simp at hx;subst hx;exact⟨_,rfl,zo.refl _⟩
 ·simp at hx;subst hx;exact⟨_,rfl,h⟩
 ·simp at hx
theorem zo2 {α:Type}[Inhabited α]{sz:Nat}{f:α→List V}{a:List α}{v:V}(h:v=zf sz f a∨v=.nils∧a=[]):zo v (zf sz f a):=by
 rcases h with rfl | ⟨rfl,rfl⟩
 ·exact zo.refl _
 ·exact zo.nils _ _
theorem znM {P:Program}{G:Nat→V}{f:FuncId}(h:Holds P G f qX):Holds P G f znC:=zav h fun rl args hpu hp=>by
 obtain⟨a,v,rfl,hv,hl⟩:=hp
 have hi:zkh a.length fun i=>wS (el a i):=⟨hl,fun i hi=>by rw[ziR]⟩
 refine⟨[zf 2 wS a,zf 2 wS a],rfl,two_vent (zo2 hv),fun b hb=>?_,⟨a.length,_,a.length,_,rfl,hi,hi⟩,rfl,congrArg V.bool (decide_eq_true rfl)⟩
 simp only[List.mem_cons,List.not_mem_nil,or_false,or_self] at hb
 subst hb
 exact hi.pu
theorem zo3 {P:Program}{G:Nat→V}{f:FuncId}(h:Holds P G f znZ):Holds P G f zo0:=zav h fun rl args hpu hp=>by
 obtain⟨a,e,v,rfl,hv,hz,hl⟩:=hp
 have hi:zb4 a.length fun i=>[.str (el a i)]:=⟨hl,fun i hi=>rfl⟩
 refine⟨[zg a,.int .i64 e,.int .i64 e,zg a],rfl,fun j x hx=>?_,fun b hb=>?_,⟨a.length,_,e,rfl,hi,fun q=>by rw[hz q];rfl⟩,rfl,rfl⟩
 ·rcases j with _ | _ | _ | _ | j
  ·simp at hx;subst hx;exact⟨_,rfl,zo.refl _⟩
  ·simp at hx;subst hx;exact⟨_,rfl,zo.refl _⟩
  ·simp at hx;subst hx;exact⟨_,rfl,zo.refl _⟩
  ·simp at hx;subst hx;exact⟨_,rfl,zo2 (f:=fun s:Str=>[V.str s]) hv⟩
  ·simp at hx
 ·simp only[List.mem_cons,List.not_mem_nil,or_false] at hb
  rcases hb with rfl | rfl | rfl | rfl
  ·exact hi.pu
  ·exact .int _ _
  ·exact .int _ _
  ·exact hi.pu
def znH:Contract:=fun _ args=>⟨∃ l s,args=[zf 5 encEv l,.str s]∧zo8 l∧s.length≤9223372036854775807,.bool true,none⟩
def zob:Contract:=fun _ args=>⟨∃ l d s,args=[zf 5 encEv l,.int .i64 d,.str s]∧zo8 l∧s.length≤9223372036854775807,.bool true,none⟩
def z1:Contract:=fun _ args=>⟨∃ l h c lv,args=[zf 5 encEv l,.agg [.str h,zf 2 wS c,.int .i64 lv]]∧zo8 l∧h.length≤9223372036854775807∧c.length≤9223372036854775807∧(∀ x∈c,x.1.length≤9223372036854775807),.bool true,none⟩
attribute [go_sem] znH zob z1
theorem znO (l:List Ev):((replayed levelE l).2.2=0∧(wz levelE l).1=(replayed levelE l).1.now∧(wz levelE l).2.2=0)∨((replayed levelE l).2.2≠0∧(wz levelE l).1={}∧(wz levelE l).2.2=(replayed levelE l).2.2):=by
 by_cases w:(replayed levelE l).2.2=0
 ·exact .inl ⟨w,by unfold wz;rw[if_neg (fun q=>q w)],by unfold wz;rw[if_neg (fun q=>q w)]⟩
 ·exact .inr ⟨w,by unfold wz;rw[if_pos w],by unfold wz;rw[if_pos w]⟩
end Go.Fly.Off
end
