/- Part of a proof. No conditions. -/
import Derived.Test.YtkfbgillhhhdgaaGreatDoorAQ
import Derived.Test.YtkfbgillhhhdgaaGreatDoorAP
set_option linter.unusedSimpArgs false
set_option linter.unusedVariables false
section
namespace Go.Fly.Off
open Go
def sLow:Str:=[108,111,119]
def sHigh:Str:=[104,105,103,104]
structure ZnOk (get:Nat→List V) (a:Int):Prop where
 low:get 0=[.str sLow,.int .i64 60,.int .i64 50,.int .i64 0]
 high:get 1=[.str sHigh,.int .i64 a,.int .i64 80,.int .i64 0]
 bd:61≤a∧a≤90
def zfU (l:List Ev)(s:Str):List It×Int :=
 if jC l 104 s≠0 then ([],jC l 104 s) else
  let r:=(replayed levelE l).1.now
  (r.chain (r.house s).share,0)
def zej:Contract:=fun _ args=>⟨∃ l s,args=[zf 5 encEv l,.str s]∧l.length≤1000000∧(∀ e∈l,EvB e),
 .tup [zf 2 wS (zfU (zi zI (arg args 0)) (zQ (arg args 1))).1,.int .i64 (zfU (zi zI (arg args 0)) (zQ (arg args 1))).2],none⟩
def zaW (a b:List It):Nat→Nat→Option Nat
 | i,0=>none
 | i,n+1=>if a.length≤i∨b.length≤i∨el a i≠el b i then some i else zaW a b (i+1) n
def jc (l:List Ev)(s:Str)(c:List It)(lv:Int):Int×Int :=
 if jC l 104 s≠0 then (0,jC l 104 s) else
  let r:=(replayed levelE l).1.now
  let right:=r.chain (r.house s).share
  match zaW c right 0 (max c.length right.length) with
  | some i=>(i,19)
  | none=>(right.length,err (!decide (levelE (zbu right)=lv)) 24)
def zei:Contract:=fun _ args=>⟨∃ l s c lv,args=[zf 5 encEv l,.str s,zf 2 wS c,.int .i64 lv]∧l.length≤1000000∧(∀ e∈l,EvB e)∧c.length≤1000000,
 .tup [.int .i64 (jc (zi zI (arg args 0)) (zQ (arg args 1)) (zi w6 (arg args 2)) (wo (arg args 3))).1,.int .i64 (jc (zi zI (arg args 0)) (zQ (arg args 1)) (zi w6 (arg args 2)) (wo (arg args 3))).2],none⟩
def Reg.eligible (r:Reg):List Str:=(r.namesOf 104).filter fun s=>r.isLoud s && !r.hasOffer s
def zfP:Contract:=fun _ args=>⟨∃ r s,args=[.str s,.cptr [.cptr (zt r)]]∧RL r∧LastOk r∧s∈r.namesOf 104,.bool ((wC (cellsOf ((cellsOf (arg args 1)).getD 0 .top))).isLoud (zQ (arg args 0)) && !(wC (cellsOf ((cellsOf (arg args 1)).getD 0 .top))).hasOffer (zQ (arg args 0))),none⟩
def zbi (k:FuncId):Contract:=fun _ args=>⟨∃ l r,args=[zg l,.fn (.func k) [] [.cptr [.cptr (zt r)]]]∧l.length≤1000000∧RL r∧LastOk r∧∀ s∈l,s∈r.namesOf 104,
 zg ((wL (arg args 0)).filter fun s=>(match arg args 1 with | .fn _ _ [.cptr [.cptr c]]=>wC c | _=>{}).isLoud s && !(match arg args 1 with | .fn _ _ [.cptr [.cptr c]]=>wC c | _=>{}).hasOffer s),none⟩
def zfO:Contract:=fun _ args=>⟨∃ r,args=[.cptr (zt r)]∧RL r∧LastOk r,zg (wC (cellsOf (arg args 0))).eligible,none⟩
def zmV (l:List Ev):List Str×Int:=if (replayed levelE l).2.2≠0 then ([],(replayed levelE l).2.2) else ((replayed levelE l).1.now.eligible,0)
def ziK:Contract:=fun _ args=>⟨∃ l,args=[zf 5 encEv l]∧l.length≤1000000∧(∀ e∈l,EvB e),.tup [zg (zmV (zi zI (arg args 0))).1,.int .i64 (zmV (zi zI (arg args 0))).2],none⟩
def zgv (l:List Ev)(m s:Str):Int×Int :=
 if jC l 109 m≠0 then (0,jC l 109 m) else
  let r:=(replayed levelE l).1.now
  let i:=zd5 (r.namesOf 104) s
  let c:=zv [err (decide (i < 0)) 10,err (decide (((r.chart m).levels.length:Int)≤i)) 7]
  if c≠0 then (0,c) else (el (r.chart m).levels i.toNat,0)
def zhM:Contract:=fun _ args=>⟨∃ l m s,args=[zf 5 encEv l,.str m,.str s]∧l.length≤1000000∧(∀ e∈l,EvB e),
 .tup [.int .i64 (zgv (zi zI (arg args 0)) (zQ (arg args 1)) (zQ (arg args 2))).1,.int .i64 (zgv (zi zI (arg args 0)) (zQ (arg args 1)) (zQ (arg args 2))).2],none⟩
attribute [go_sem] zej zei zfP zbi zfO ziK zhM
theorem zn6 {a b:List It}{i n:Nat}(h:i < n):zaW a b i (n - i)=if a.length≤i∨b.length≤i∨el a i≠el b i then some i else zaW a b (i+1) (n - (i+1)):=by
 rw[show n - i=(n - (i+1))+1 by omega];rfl
def CoB (r:Reg):Prop:=∀ c∈r.complaints,0≤c.day∧c.day≤999999999
theorem Acc.cob {lv:Int→Int}{r:Reg}{e:Ev}{k:Kd}(h:Acc r e k)(hb:CoB r):CoB (w9 lv r e):=by
 rw[wJ h.kind]
 cases k
 case complain =>
  intro c hc
  rcases List.mem_append.1 (show c∈r.complaints++[_] from hc) with q | q
  ·exact hb c q
  ·rw[List.mem_singleton.1 q]
   exact h.val (i:=0) (by decide)
 case answer =>
  intro c hc
  obtain⟨y,hy,q⟩:=ya (show c∈r.complaints.modify _ _ from hc)
  rcases q with rfl | rfl
  ·exact hb _ hy
  ·exact hb y hy
 case dismiss =>
  intro c hc
  obtain⟨y,hy,q⟩:=ya (show c∈r.complaints.modify _ _ from hc)
  rcases q with rfl | rfl
  ·exact hb _ hy
  ·exact hb y hy
 case undo=>exact absurd rfl h.real
 all_goals exact hb
theorem Cnt.cob {lv:Int→Int}{l:List Ev}(h:Cnt lv l):∀ {i:Nat},i≤l.length→CoB (made lv (l.take i))
 | 0,_=>by
   rw[List.take_zero]
   intro c hc
   cases hc
 | i+1,hi=>by
   rw[vt lv l (by omega)]
   obtain⟨k,hk⟩:=h i (by omega)
   exact hk.cob (h.cob (by omega))
theorem zeP (l:List Ev):CoB (replayed levelE l).1.now:=by
 have q:=(yS (lv:=levelE) l).1
 rw[q.now]
 have:=q.cnt.cob (Nat.le_refl (replayed levelE l).1.counted.length)
 rwa [List.take_length] at this
def zm5 (day:Int)(c:Co):Bool:=decide (c.day+30 < day) && (decide (c.answered=-1) || decide (c.day+30 < c.answered))
def Reg.lateL (r:Reg)(day:Int):List Str:=(r.complaints.filter (zm5 day)).map (·.name)
def zfs:Contract:=fun _ args=>⟨∃ c day,args=[.agg (zP c),.cptr [.int .i64 day]]∧0≤c.day∧c.day≤999999999,.bool (zm5 (wo ((cellsOf (arg args 1)).getD 0 .top)) (jl (cellsOf (arg args 0)))),none⟩
def ze1 (k:FuncId):Contract:=fun _ args=>⟨∃ l day,args=[zf 6 zP l,.fn (.func k) [] [.cptr [.int .i64 day]]]∧l.length≤1000000∧∀ c∈l,0≤c.day∧c.day≤999999999,
 zf 6 zP ((zi jl (arg args 0)).filter (zm5 (match arg args 1 with | .fn _ _ [.cptr [.int _ d]]=>d | _=>0))),none⟩
def zih:Contract:=fun _ args=>⟨∃ r day,args=[.cptr (zt r),.int .i64 day]∧RL r∧CoB r,zg ((wC (cellsOf (arg args 0))).lateL (wo (arg args 1))),none⟩
def atQC:Contract:=fun _ args=>⟨∃ l day,args=[zf 5 encEv l,.int .i64 day]∧l.length≤1000000∧(∀ e∈l,EvB e),
 .tup [.cptr (zz (replayed levelE (zi zI (arg args 0))).1),.int .i64 (zv [(replayed levelE (zi zI (arg args 0))).2.2,rng (wo (arg args 1)) 0 999999999])],none⟩
def zfr (l:List Ev)(day:Int):List Str×Int :=
 if zv [(replayed levelE l).2.2,rng day 0 999999999]≠0 then ([],zv [(replayed levelE l).2.2,rng day 0 999999999]) else ((replayed levelE l).1.now.lateL day,0)
def zii:Contract:=fun _ args=>⟨∃ l day,args=[zf 5 encEv l,.int .i64 day]∧l.length≤1000000∧(∀ e∈l,EvB e),
 .tup [zg (zfr (zi zI (arg args 0)) (wo (arg args 1))).1,.int .i64 (zfr (zi zI (arg args 0)) (wo (arg args 1))).2],none⟩
attribute [go_sem] zfs ze1 zih atQC zii
structure AbOk (r:Reg) (e:Ev) (k:Kd):Prop where
 kind:kindOf e.kind=some k
 names:e.names.length=k.letters.length
 vals:e.vals.length≤1000000
 of:k=.offer∨k=.pay→e.nm 0∈r.namesOf 111
 co:k=.complain∨k=.answer∨k=.dismiss→e.nm 0∈r.namesOf 99
end Go.Fly.Off
end
