/- Part of a proof. No conditions. -/
import Derived.Test.YtkfbgillhhhdgaaGreatDoorAW
import Derived.Test.YtkfbgillhhhdgaaGreatDoorAY
set_option linter.unusedSimpArgs false
set_option linter.unusedVariables false
section
namespace Go.Fly.Off
open Go
def zeY (w:Str):Bool:=decide (((w.getD 0 0).toNat:Int)=43)
def zbs (r:Reg)(w s:Str):Bool:=decide (s∈r.namesOf (zg9 w))
def badW (r:Reg)(e:Ev)(L:List Str)(i:Nat):Bool:=!zeY (el L i) && !zbs r (el L i) (el e.names i)
def jA (r:Reg)(e:Ev)(L:List Str):Int :=
 if (List.range L.length).any (badW r e L) then 10 else err ((decide (0 < L.length) && zeY (el L 0)) && zbs r (el L 0) (el e.names 0)) 9
theorem zcy (r:Reg)(e:Ev)(k:Kd):jA r e (j8 k)=knownE r e k:=by
 have hr1:List.range 1=[0]:=rfl
 have hr2:List.range 2=[0,1]:=rfl
 cases k <;> simp[jA,knownE,jv,j8,Kd.letters,yU,jQ,yP,badW,zeY,zbs,zg9,el,err,hr1,hr2,List.range_zero] <;> rfl
def vJ (e:Ev):Bool:=e.names.all (fun s=>decide (s.length≤40)) && decide (e.names.length≤3) && decide (e.vals.length≤3) && decide (e.kind.length≤40) && decide (e.text.length≤40)
structure EvLen (e:Ev):Prop where
 names:e.names.length≤9223372036854775807
 vals:e.vals.length≤9223372036854775807
 strs:∀ s∈e.names,s.length≤9223372036854775807
 kind:e.kind.length≤9223372036854775807
 text:e.text.length≤9223372036854775807
theorem EvLen.evB {e:Ev}(h:EvLen e)(hs:vJ e=true):EvB e:=by
 unfold vJ at hs
 simp only[Bool.and_eq_true,decide_eq_true_eq] at hs
 exact⟨by omega,by omega,h.strs⟩
def zkA:Contract:=fun _ args=>⟨∃ e,args=[.agg (encEv e)]∧EvLen e,.bool (vJ (zI (cellsOf (arg args 0)))),none⟩
def jE (l:List Ev)(n:Int):Bool:=l.all vJ && decide ((l.length:Int)≤n)
def zht:Contract:=fun _ args=>⟨∃ l n,args=[zf 5 encEv l,.int .i64 n]∧l.length≤9223372036854775807∧∀ e∈l,EvLen e,.bool (jE (zi zI (arg args 0)) (wo (arg args 1))),none⟩
def zlw:Contract:=fun _ args=>⟨∃ e,args=[.agg (encEv e)]∧EvB e,.agg (encEv (zI (cellsOf (arg args 0)))),none⟩
def zo9:Contract:=fun _ args=>⟨∃ l,args=[zf 5 encEv l]∧l.length≤1000000∧∀ e∈l,EvB e,zf 5 encEv (zi zI (arg args 0)),none⟩
attribute [go_sem] zkA zht zlw zo9
theorem zkz {e:Ev}{i:Nat}(hi:i < e.names.length)(h:¬ (el e.names i).length≤40):vJ e=false:=by
 have:e.names.all (fun s=>decide (s.length≤40))=false:=by
  rw[Bool.eq_false_iff]
  intro q
  have:=List.all_eq_true.1 q _ (wd hi)
  exact h (of_decide_eq_true this)
 unfold vJ
 rw[this]
 rfl
theorem zj6 {e:Ev}(h:∀ i,i < e.names.length→(el e.names i).length≤40):e.names.all (fun s=>decide (s.length≤40))=true:=List.all_eq_true.2 fun s hs=>by
 obtain⟨i,hi,rfl⟩:=List.mem_iff_getElem.1 hs
 have:=h i hi
 rw[yp _ hi] at this
 exact decide_eq_true this
theorem zj5 {l:List Ev}{n:Int}{i:Nat}(hi:i < l.length)(h:vJ (el l i)=false):jE l n=false:=by
 have:l.all vJ=false:=by
  rw[Bool.eq_false_iff]
  intro q
  have:=List.all_eq_true.1 q _ (wd hi)
  rw[h] at this
  cases this
 unfold jE
 rw[this]
 rfl
theorem zgg {l:List Ev}(h:∀ i,i < l.length→vJ (el l i)=true):l.all vJ=true:=List.all_eq_true.2 fun s hs=>by
 obtain⟨i,hi,rfl⟩:=List.mem_iff_getElem.1 hs
 have:=h i hi
 rwa [yp _ hi] at this
theorem zc8 {α:Type}[Inhabited α]{f:α→Int}:∀ {l:List α} {m:List Int} {i:Nat},(∀ j,j < i→f (el l j)=0)→i < l.length→f (el l i)≠0→zv (l.map f++m)=f (el l i)
 | [],m,i,_,h,_=>absurd h (Nat.not_lt_zero _)
 | x::l,m,0,_,_,h=>by
   have h:f x≠0:=h
   show zv (f x::(l.map f++m))=f x
   rw[wT,if_pos h]
 | x::l,m,i+1,hb,h,hn=>by
   have h0:f x=0:=hb 0 (by omega)
   show zv (f x::(l.map f++m))=_
   rw[wT,if_neg (fun q=>q h0)]
   exact zc8 (l:=l) (i:=i) (fun j hj=>hb (j+1) (by omega)) (by simpa using h) hn
theorem kd {α:Type}[Inhabited α]{f:α→Int}:∀ {l:List α} {m:List Int},(∀ j,j < l.length→f (el l j)=0)→zv (l.map f++m)=zv m
 | [],m,_=>rfl
 | x::l,m,h=>by
   have h0:f x=0:=h 0 (by simp)
   show zv (f x::(l.map f++m))=_
   rw[wT,if_neg (fun q=>q h0)]
   exact kd (l:=l) fun j hj=>h (j+1) (by simpa using hj)
theorem zk0 {e:Ev}(h:rng e.num 1 1000≠0):eventE e=rng e.num 1 1000:=by
 unfold eventE
 split
 ·rw[wT,if_pos h]
 ·simp only[List.cons_append,wT,if_pos h]
theorem zmT {e:Ev}(h:rng e.num 1 1000=0)(hk:kindOf e.kind=none):eventE e=13:=by
 unfold eventE
 rw[hk]
 simp only[wT,h]
 rfl
theorem zfM {e:Ev}{k:Kd}(h:rng e.num 1 1000=0)(hk:kindOf e.kind=some k) :
 eventE e=zv (err (decide (e.names.length≠k.letters.length) || decide (e.vals.length≠k.values)) 2::(e.names.map (fun s=>err (!nameB s) 8)++(e.vals.map (fun v=>rng v 0 999999999)++[err (decide (e.text≠[])) 1]))):=by
 unfold eventE
 rw[hk]
 simp only[List.cons_append,List.nil_append,List.append_assoc,wT,h]
 rfl
theorem y8 {s:Str}{k:Kd}(hk:kindOf s=some k)(j:Kd):decide (s=j.str)=decide (k=j):=by
 rw[kZ hk]
 cases k <;> cases j <;> rfl
theorem vd {s:Str}(hk:kindOf s=none)(j:Kd):decide (s=j.str)=false:=decide_eq_false fun q=>by
 have h:=List.find?_eq_none.1 hk j (by cases j <;> decide)
 exact h (decide_eq_true q.symm)
theorem zj3 {l:List Ev}{n:Nat}(h:jE l n=true):l.length≤n:=by
 unfold jE at h
 simp only[Bool.and_eq_true,decide_eq_true_eq] at h
 omega
theorem zj4 {l:List Ev}{n:Int}(h:jE l n=true)(hl:∀ e∈l,EvLen e):∀ e∈l,EvB e:=fun e he=>by
 unfold jE at h
 simp only[Bool.and_eq_true,List.all_eq_true] at h
 exact(hl e he).evB (h.1 e he)
def kdB:Kd→Kd→Bool
 | .type,.type=>true
 | .house,.house=>true
 | .flight,.flight=>true
 | .match_,.match_=>true
 | .correct,.correct=>true
 | .publish,.publish=>true
 | .offer,.offer=>true
 | .fund,.fund=>true
 | .pay,.pay=>true
 | .complain,.complain=>true
 | .answer,.answer=>true
 | .dismiss,.dismiss=>true
 | .undo,.undo=>true
 | _,_=>false
theorem jx (k j:Kd):decide (k=j)=kdB k j:=by cases k <;> cases j <;> rfl
theorem ze2 {s:Str}{k:Kd}(hk:kindOf s=some k):decide (s=[116,121,112,101])=kdB k .type∧decide (s=[104,111,117,115,101])=kdB k .house∧decide (s=[102,108,105,103,104,116])=kdB k .flight∧decide (s=[109,97,116,99,104])=kdB k .match_∧decide (s=[99,111,114,114,101,99,116])=kdB k .correct∧decide (s=[112,117,98,108,105,115,104])=kdB k .publish∧decide (s=[111,102,102,101,114])=kdB k .offer∧decide (s=[102,117,110,100])=kdB k .fund∧decide (s=[112,97,121])=kdB k .pay∧decide (s=[99,111,109,112,108,97,105,110])=kdB k .complain∧decide (s=[97,110,115,119,101,114])=kdB k .answer∧decide (s=[100,105,115,109,105,115,115])=kdB k .dismiss∧decide (s=[117,110,100,111])=kdB k .undo :=
 ⟨(y8 hk .type).trans (jx k _),(y8 hk .house).trans (jx k _),(y8 hk .flight).trans (jx k _),(y8 hk .match_).trans (jx k _),(y8 hk .correct).trans (jx k _),(y8 hk .publish).trans (jx k _),(y8 hk .offer).trans (jx k _),(y8 hk .fund).trans (jx k _),(y8 hk .pay).trans (jx k _),(y8 hk .complain).trans (jx k _),(y8 hk .answer).trans (jx k _),(y8 hk .dismiss).trans (jx k _),(y8 hk .undo).trans (jx k _)⟩
theorem zmf {s:Str}(hk:kindOf s=none):decide (s=[116,121,112,101])=false∧decide (s=[104,111,117,115,101])=false∧decide (s=[102,108,105,103,104,116])=false∧decide (s=[109,97,116,99,104])=false∧decide (s=[99,111,114,114,101,99,116])=false∧decide (s=[112,117,98,108,105,115,104])=false∧decide (s=[111,102,102,101,114])=false∧decide (s=[102,117,110,100])=false∧decide (s=[112,97,121])=false∧decide (s=[99,111,109,112,108,97,105,110])=false∧decide (s=[97,110,115,119,101,114])=false∧decide (s=[100,105,115,109,105,115,115])=false∧decide (s=[117,110,100,111])=false :=
 ⟨vd hk .type,vd hk .house,vd hk .flight,vd hk .match_,vd hk .correct,vd hk .publish,vd hk .offer,vd hk .fund,vd hk .pay,vd hk .complain,vd hk .answer,vd hk .dismiss,vd hk .undo⟩
theorem zhF {v M:Int}(h:0≤v):err (decide (M < v)) 3=rng v 0 M:=by
 unfold err rng
 by_cases q:M < v
 ·rw[decide_eq_true q,if_pos rfl,if_pos (.inr q)]
 ·rw[decide_eq_false q,if_neg (by decide),if_neg (by omega)]
theorem zkY {v M:Int}(h:0≤v):err (decide (M+1≤v)) 3=rng v 0 M:=by
 rw[← zhF h]
 congr 1
theorem zcp {n c:Nat}(h:n≤c):decide ((c:Int)≤(n:Int))=decide (n=c):=decide_eq_decide.2 (by omega)
theorem zg7 {n:Nat}:decide ((n:Int)=0)=decide (n=0):=decide_eq_decide.2 (by omega)
theorem lt3_eq {n:Nat}:decide ((n:Int) < 3)=decide (n < 3):=decide_eq_decide.2 (by omega)
theorem zgG {v:Int}(h:-1≤v):decide (0≤v)=decide (v≠-1):=decide_eq_decide.2 (by omega)
def AnB (r:Reg):Prop:=∀ c∈r.complaints,-1≤c.answered
theorem Acc.anb {lv:Int→Int}{r:Reg}{e:Ev}{k:Kd}(h:Acc r e k)(hb:AnB r):AnB (w9 lv r e):=by
 rw[wJ h.kind]
 cases k
 case complain =>
  intro c hc
  rcases List.mem_append.1 (show c∈r.complaints++[_] from hc) with q | q
  ·exact hb c q
  ·rw[List.mem_singleton.1 q]
   exact Int.le_refl _
 case answer =>
  have hv:=h.val (i:=0) (by decide)
  intro c hc
  obtain⟨y,hy,q⟩:=ya (show c∈r.complaints.modify _ _ from hc)
  rcases q with rfl | rfl
  ·exact hb _ hy
  ·show -1≤e.vl 0
   have:e.vl 0=el e.vals 0:=rfl
   omega
 case dismiss =>
  have hv:=h.val (i:=0) (by decide)
  intro c hc
  obtain⟨y,hy,q⟩:=ya (show c∈r.complaints.modify _ _ from hc)
  rcases q with rfl | rfl
  ·exact hb _ hy
  ·show -1≤e.vl 0
   have:e.vl 0=el e.vals 0:=rfl
   omega
 case undo=>exact absurd rfl h.real
 all_goals exact hb
theorem Cnt.anb {lv:Int→Int}{l:List Ev}(h:Cnt lv l):∀ {i:Nat},i≤l.length→AnB (made lv (l.take i))
 | 0,_=>by
   rw[List.take_zero]
   intro c hc
   cases hc
 | i+1,hi=>by
   rw[vt lv l (by omega)]
   obtain⟨k,hk⟩:=h i (by omega)
   exact hk.anb (h.anb (by omega))
theorem zoc (l:List Ev):AnB (replayed levelE l).1.now:=by
 have q:=(yS (lv:=levelE) l).1
 rw[q.now]
 have:=q.cnt.anb (Nat.le_refl (replayed levelE l).1.counted.length)
 rwa [List.take_length] at this
def kE:Contract:=fun _ args=>⟨∃ r e k,args=[.agg (zt r),.agg (encEv e)]∧RuleOk r e k∧AnB r,.int .i64 (checkK (wC (cellsOf (arg args 0))) (zI (cellsOf (arg args 1))) (kdOf (zI (cellsOf (arg args 1))))),none⟩
attribute [go_sem] kE
theorem zm0 {r:Reg}{s:Str}(h:r.listed s=none):r.isLoud s=false:=by unfold Reg.isLoud;rw[h]
theorem zlZ {r:Reg}{s:Str}{n:Int}(h:r.listed s=some n):r.isLoud s=!decide (n < 60):=by
 unfold Reg.isLoud
 rw[h]
 by_cases q:n < 60
 ·simp[q]
 ·simp[q];omega
theorem zkg {h h2:Hist}(e:Ev)(h1:h.events.length=h2.events.length)(hc:h.counted=h2.counted)(hn:h.now=h2.now):zT h e=zT h2 e:=by
 unfold zT
 rw[h1,hc,hn]
def zc5 (n:Int)(cl:List Ev)(r:Reg):Hist:=⟨List.replicate n.toNat default,cl,r⟩
def qi:Contract:=fun _ args=>⟨∃ cl r,∃ n:Nat,∃ e,args=[zf 5 encEv cl,.agg (zt r),.int .i64 n,.agg (encEv e)]∧n≤1000000∧cl.length≤1000000∧Good r∧HeB r∧AnB r∧eventE e=0,
 .int .i64 (zT (zc5 (wo (arg args 2)) (zi zI (arg args 0)) (wC (cellsOf (arg args 1)))) (zI (cellsOf (arg args 3)))),none⟩
attribute [go_sem] qi
theorem acc_num {n:Nat}{cl:List Ev}{r:Reg}{e:Ev}(h:e.num≠(n:Int)+1):zT (zc5 n cl r) e=11:=by
 unfold zT zc5
 rw[if_pos (by simpa using h)]
theorem zny {n:Nat}{r:Reg}{e:Ev}(h:e.num=(n:Int)+1)(hk:kindOf e.kind=some .undo):zT (zc5 n [] r) e=12:=by
 unfold zT zc5
 rw[if_neg (by simpa using h),hk]
 rfl
theorem znx {n:Nat}{cl:List Ev}{r:Reg}{e:Ev}(h:e.num=(n:Int)+1)(hk:kindOf e.kind=some .undo)(hc:0 < cl.length) :
 zT (zc5 n cl r) e=err (decide ((el cl (cl.length - 1)).kind=[112,117,98,108,105,115,104]) || decide ((el cl (cl.length - 1)).kind=[112,97,121])) 21:=by
 unfold zT zc5
 rw[if_neg (by simpa using h),hk]
 have hl:cl.getLast?=some (el cl (cl.length - 1)):=by
  rw[List.getLast?_eq_getElem?,yp _ (by omega)]
  exact List.getElem?_eq_getElem _
 simp only[hl]
 rfl
theorem acc_some {n:Nat}{cl:List Ev}{r:Reg}{e:Ev}{k:Kd}(h:e.num=(n:Int)+1)(hk:kindOf e.kind=some k)(hu:k≠.undo) :
 zT (zc5 n cl r) e=if el e.vals 0 < r.day then 22 else if knownE r e k≠0 then knownE r e k else checkK r e k:=by
 unfold zT zc5
 rw[if_neg (by simpa using h),hk]
 cases k <;> first | exact absurd rfl hu | rfl
end Go.Fly.Off
end
