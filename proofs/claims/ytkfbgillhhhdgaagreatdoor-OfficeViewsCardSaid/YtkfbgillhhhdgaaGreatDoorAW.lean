/- Part of a proof. No conditions. -/
import Derived.Test.YtkfbgillhhhdgaaGreatDoorAV
set_option linter.unusedSimpArgs false
set_option linter.unusedVariables false
section
namespace Go.Fly.Off
open Go
theorem reg_all (r:Reg):(if 8≤(zt r).length then some (V.agg (List.take 8 (zt r))) else none)=some (V.agg (zt r)):=rfl
theorem zgJ {n:Nat}{hp:Heap}(r:Reg):(zt r).map (frz (n+1) hp)=zt r:=(List.map_congr_left fun v hv=>v7 (zl3 r v hv)).trans (List.map_id _)
attribute [go_sem] reg_all zgJ
def qf (s:Str):Int×Int×Bool:=match kindOf s with
 | some k=>(k.letters.length,k.values,true)
 | none=>(0,0,false)
def zhs:Contract:=fun _ args=>⟨∃ s,args=[.str s],.tup [.int .i64 (qf (zQ (arg args 0))).1,.int .i64 (qf (zQ (arg args 0))).2.1,.bool (qf (zQ (arg args 0))).2.2],none⟩
def jp:Contract:=fun _ args=>⟨∃ e,args=[.agg (encEv e)]∧EvB e,.int .i64 (eventE (zI (cellsOf (arg args 0)))),none⟩
def yd (c:Int):Contract:=fun _ args=>⟨∃ r s,args=[.agg (zt r),.str s]∧RL r,.int .i64 (zd5 ((wC (cellsOf (arg args 0))).namesOf c) (zQ (arg args 1))),none⟩
def j8:Kd→List Str
 | .type=>[[43,116,121,112,101]]
 | .house=>[[43,104,111,117,115,101]]
 | .publish=>[[43,109,97,112]]
 | .flight=>[[43,102,108,105,103,104,116],[116,121,112,101]]
 | .offer=>[[43,111,102,102,101,114],[104,111,117,115,101]]
 | .complain=>[[43,99,111,109,112,108,97,105,110,116],[104,111,117,115,101]]
 | .match_=>[[102,108,105,103,104,116]]
 | .correct=>[[116,121,112,101]]
 | .pay=>[[111,102,102,101,114]]
 | .answer=>[[99,111,109,112,108,97,105,110,116],[102,108,105,103,104,116]]
 | .dismiss=>[[99,111,109,112,108,97,105,110,116]]
 | .fund=>[]
 | .undo=>[]
def zbT (s:Str):List Str:=match kindOf s with
 | some k=>j8 k
 | none=>[]
def zi9:Contract:=fun _ args=>⟨∃ s,args=[.str s],zg (zbT (zQ (arg args 0))),none⟩
def zg9 (w:Str):Int :=
 if w=[116,121,112,101]∨w=[43,116,121,112,101] then 116
 else if w=[104,111,117,115,101]∨w=[43,104,111,117,115,101] then 104
 else if w=[102,108,105,103,104,116]∨w=[43,102,108,105,103,104,116] then 102
 else if w=[43,109,97,112] then 109
 else if w=[111,102,102,101,114]∨w=[43,111,102,102,101,114] then 111 else 99
def kG:Contract:=fun _ args=>⟨∃ r w s,args=[.agg (zt r),.str w,.str s]∧RL r,.bool (decide (zQ (arg args 2)∈(wC (cellsOf (arg args 0))).namesOf (zg9 (zQ (arg args 1))))),none⟩
def kdOf (e:Ev):Kd:=(kindOf e.kind).getD .undo
def kF:Contract:=fun _ args=>⟨∃ r e k,args=[.agg (zt r),.agg (encEv e)]∧RL r∧kindOf e.kind=some k∧k≠.undo∧e.names.length=k.letters.length,
 .int .i64 (knownE (wC (cellsOf (arg args 0))) (zI (cellsOf (arg args 1))) (kdOf (zI (cellsOf (arg args 1))))),none⟩
def zdH:Contract:=fun _ args=>⟨∃ r s,args=[.agg (zt r),.str s]∧RL r∧HeB r,.tup [.int .i64 ((wC (cellsOf (arg args 0))).matched (zQ (arg args 1))).length,.int .i64 (zaX ((wC (cellsOf (arg args 0))).matched (zQ (arg args 1))))],none⟩
def zhI:Contract:=fun _ args=>⟨∃ r f h,args=[.agg (zt r),.agg (zM f),.agg (zZ h)]∧ChainOk r h.share∧f∈r.flights,.int .i64 ((wC (cellsOf (arg args 0))).energyAt (jj (cellsOf (arg args 2))).share (qc (cellsOf (arg args 1)))),none⟩
def kI:Contract:=fun _ args=>⟨∃ r,∃ i:Nat,args=[.agg (zt r),.int .i64 i]∧i < r.houses.length∧ChainOk r (el r.houses i).share,
 zf 2 wS ((wC (cellsOf (arg args 0))).chain (el (wC (cellsOf (arg args 0))).houses (wo (arg args 1)).toNat).share),none⟩
def zdC:Contract:=fun _ args=>⟨∃ l,args=[zf 2 wS l]∧ItsOk l,.int .i64 (zbu (zi w6 (arg args 0))),none⟩
def zdD:Contract:=fun _ args=>⟨∃ k:Nat,args=[.int .i64 k]∧k≤120,.int .i64 (zhp (wo (arg args 0))),none⟩
def zbc:Contract:=fun _ args=>⟨∃ e,args=[.int .i64 e],.int .i64 (levelE (wo (arg args 0))),none⟩
def zdI:Contract:=fun _ args=>⟨∃ r,∃ i:Nat,args=[.agg (zt r),.int .i64 i]∧i < r.houses.length∧ChainOk r (el r.houses i).share,
 .int .i64 ((wC (cellsOf (arg args 0))).level levelE (el (wC (cellsOf (arg args 0))).houses (wo (arg args 1)).toNat)),none⟩
def Reg.pubAt (r:Reg)(i:Nat):Option Int:=match r.maps.getLast? with
 | none=>none
 | some m=>m.levels[i]?
def optW:Option Int→V
 | none=>.tup [.int .i64 0,.bool false]
 | some n=>.tup [.int .i64 n,.bool true]
def zdF:Contract:=fun _ args=>⟨∃ r,∃ i:Nat,args=[.agg (zt r),.int .i64 i]∧RL r∧LastOk r,optW ((wC (cellsOf (arg args 0))).pubAt (wo (arg args 1)).toNat),none⟩
def zdG:Contract:=fun _ args=>⟨∃ r s,args=[.agg (zt r),.str s]∧RL r,.bool ((wC (cellsOf (arg args 0))).hasOffer (zQ (arg args 1))),none⟩
def zbd:Contract:=fun _ args=>⟨∃ r d,args=[.agg (zt r),.int .i64 d]∧RL r,.bool ((wC (cellsOf (arg args 0))).flies (wo (arg args 1))),none⟩
attribute [go_sem] zhs jp yd zi9 kG kF zdH zhI kI zdC zdD zbc zdI zdF zdG zbd
structure RuleOk (r:Reg) (e:Ev) (k:Kd):Prop where
 good:Good r
 heb:HeB r
 kind:kindOf e.kind=some k
 real:k≠.undo
 names:e.names.length=k.letters.length
 vals:e.vals.length=k.values
 bd:∀ v∈e.vals,0≤v∧v≤999999999
 known:knownE r e k=0
def jq:Contract:=fun _ args=>⟨∃ r e k,args=[.agg (zt r),.agg (encEv e)]∧Good r∧Acc r e k,.agg (zt (w9 levelE (wC (cellsOf (arg args 0))) (zI (cellsOf (arg args 1))))),none⟩
attribute [go_sem] jq
theorem thr_step:∀ k:Nat,k < 120→zhp (k:Int) < zhp ((k+1:Nat):Int):=by decide
theorem thr_le {i:Nat}:∀ {j:Nat},i≤j→j≤120→zhp (i:Int)≤zhp (j:Int)
 | 0,h,_=>by obtain rfl:i=0:=by omega
             exact Int.le_refl _
 | j+1,h,hj=>by
   by_cases e:i=j+1
   ·subst e;exact Int.le_refl _
   ·have h1:=thr_le (i:=i) (j:=j) (by omega) (by omega)
    have h2:=thr_step j (by omega)
    omega
theorem zig (e:Int):∀ (n:Nat) (k:Int) (j:Nat),-1≤k→k+n=120→k < j→j≤120→(zhp (j:Int)≤e↔(j:Int)≤levE e n k)
 | 0,k,j,h1,h2,h3,h4=>by omega
 | n+1,k,j,h1,h2,h3,h4=>by
   obtain⟨m,hm⟩:∃ m:Nat,(m:Int)=k+1:=⟨(k+1).toNat,by omega⟩
   unfold levE
   rw[← hm]
   by_cases q:zhp (m:Int)≤e
   ·rw[if_pos q]
    by_cases ej:j=m
    ·subst ej
     have:=zgP e n (j:Int)
     exact⟨fun _=>this,fun _=>q⟩
    ·exact zig e n m j (by omega) (by omega) (by omega) h4
   ·rw[if_neg q]
    have:=thr_le (i:=m) (j:=j) (by omega) h4
    exact⟨fun z=>by omega,fun z=>by omega⟩
theorem lev_iff (e:Int){j:Nat}(h:j≤120):zhp (j:Int)≤e↔(j:Int)≤levelE e:=zig e 121 (-1) j (by omega) (by omega) (by omega) h
theorem thr_nat (k:Nat):zhp (k:Int)=vE ((k % 10:Nat):Int) * 10 ^ (k / 10):=by
 unfold zhp
 congr 2
theorem base_row {k:Nat}(h:k < 10):wa [V.int .i64 10,.int .i64 13,.int .i64 16,.int .i64 20,.int .i64 25,.int .i64 32,.int .i64 40,.int .i64 50,.int .i64 63,.int .i64 79] 1 (0+k)=[.int .i64 (vE (k:Int))]:=by
 have:k=0∨k=1∨k=2∨k=3∨k=4∨k=5∨k=6∨k=7∨k=8∨k=9:=by omega
 rcases this with rfl | rfl | rfl | rfl | rfl | rfl | rfl | rfl | rfl | rfl <;> rfl
theorem base_bd {k:Nat}(h:k < 10):10≤vE (k:Int)∧vE (k:Int)≤79:=by
 have:k=0∨k=1∨k=2∨k=3∨k=4∨k=5∨k=6∨k=7∨k=8∨k=9:=by omega
 rcases this with rfl | rfl | rfl | rfl | rfl | rfl | rfl | rfl | rfl | rfl <;> decide
theorem pow_bd:∀ i,i≤12→1≤(10:Int) ^ i∧(10:Int) ^ i≤1000000000000:=by decide
theorem heard_nn {r:Reg}(hb:HeB r){f:Fl}(hf:f∈r.flights):decide (0≤f.heard)=decide (f.heard≠-1):=by
 have:=hb f hf
 rw[decide_eq_decide]
 omega
theorem zcO {r:Reg}{s:Str}(h:s∈r.namesOf 104):r.pubAt (zO (r.namesOf 104) s)=r.listed s:=rfl
def flrPC:Contract:=fun _ args=>⟨∃ a b,args=[.int .i64 a,.int .i64 b]∧0≤a∧a≤1000000000000000000∧1≤b∧b≤1000000000,.int .i64 ((wo (arg args 0)).tdiv (wo (arg args 1))),none⟩
attribute [go_sem] flrPC
end Go.Fly.Off
end
