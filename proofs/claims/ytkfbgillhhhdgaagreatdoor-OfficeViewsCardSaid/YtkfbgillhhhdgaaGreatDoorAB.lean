/- Part of a proof. No conditions. -/
import Derived.Test.YtkfbgillhhhdgaaGreatDoorAA
set_option linter.unusedSimpArgs false
set_option linter.unusedVariables false
namespace Go.Fly
open Go
theorem zlW {k:K}{ev:Operand→V}{ρ:Operand→Value}(hev:∀ y,R k (ev y) (ρ y))(l:Array Operand) :
 (l.map ρ).size=(l.toList.map ev).length∧∀ (j:Nat) (v:V),(l.toList.map ev)[j]?=some v→R k v ((l.map ρ).getD j undef):=by
 refine⟨by simp,fun j v hv=>?_⟩
 obtain⟨x,hx,rfl⟩:=wm hv
 have:l[j]?=some x:=by simpa using hx
 simp only[Array.getD_eq_getD_getElem?,Array.getElem?_map,this,Option.map_some,Option.getD_some]
 exact hev x
theorem zeK {P:Program}{k:K}{ρ:Operand→Value}{o:Oper}{f:Fn}{first cap:Array Operand}(ho:o.op=.makeFunc f first cap){ev:Operand→V}(hev:∀ y,R k (ev y) (ρ y)) :
 ∃ cv,(execOp ρ o).run P k.w=.ok (.value cv) k.w∧R k (.fn f (first.toList.map ev) (cap.toList.map ev)) cv:=by
 obtain⟨h1,h2⟩:=zlW hev first
 obtain⟨h3,h4⟩:=zlW hev cap
 exact⟨_,by simp only[execOp,ho,Instr.makeFunc,Sem.run_bind,Sem.run_pure,Result.andThen_ok],.fn _ _ _ _ _ h1 h3 h2 h4⟩
theorem zhC {P:Program}{k:K}{ρ:Operand→Value}{o:Oper}{x:Operand}(ho:o.op=.move x∨o.op=.assign x){u:V}(hx:R k u (ρ x)) :
 ∃ cv,(execOp ρ o).run P k.w=.ok (.value cv) k.w∧R k u cv:=by
 rcases ho with ho | ho <;> exact⟨ρ x,by simp[execOp,ho],hx⟩
def zjn (c a b:V):Option V :=
 match c with
 | .bool t=>some (match t,a,b with
   | true,a,_=>a
   | false,_,b=>b)
 | _=>none
theorem run_pick {P:Program}{k:K}{ρ:Operand→Value}{o:Oper}{c x y:Operand}(ho:o.op=.pick c x y){uc ux uy r:V}(hc:R k uc (ρ c))(hx:R k ux (ρ x))(hy:R k uy (ρ y))
 (h:zjn uc ux uy=some r):∃ cv,(execOp ρ o).run P k.w=.ok (.value cv) k.w∧R k r cv:=by
 unfold zjn at h
 split at h
 ·rename_i t
  have hc':=hc.bool_inv
  cases t <;> (simp only[Option.some.injEq] at h;subst h)
  ·exact⟨ρ y,by simp[execOp,ho,hc',asBool],hy⟩
  ·exact⟨ρ x,by simp[execOp,ho,hc',asBool],hx⟩
 ·cases h
def y7 (hp:Heap)(x:V):Option V :=
 match x with
 | .fn (.func f) a b=>some (.fn (.func f) a b)
 | x=>if (ve hp x).isSome=true then some x else none
theorem zeJ {P:Program}{k:K}(hk:HeapOk k){ρ:Operand→Value}{o:Oper}{x:Operand}(ho:o.op=.nilCheck x){u r:V}(hx:R k u (ρ x))(h:y7 k.hp u=some r) :
 ∃ cv,(execOp ρ o).run P k.w=.ok (.value cv) k.w∧R k r cv:=by
 unfold y7 at h
 split at h
 ·cases h
  obtain⟨fs,cs,e,_⟩:=hx.fn_inv
  exact⟨_,by simp[execOp,ho,e],e ▸ hx⟩
 ·split at h
  ·rename_i hs
   cases h
   obtain⟨cs,hcs⟩:=Option.isSome_iff_exists.1 hs
   obtain⟨b,off,xx,hcv,_⟩:=zco hk hx hcs
   exact⟨_,by simp[execOp,ho,hcv],hcv ▸ hx⟩
  ·cases h
theorem zkO {P:Program}{k:K}(hk:HeapOk k){ρ:Operand→Value}{o:Oper}{t:TypeId}{x:Operand}(ho:o.op=.load t x){u r:V}(hx:R k u (ρ x))(h:ld P k.hp t u=some r) :
 ∃ cv,(execOp ρ o).run P k.w=.ok (.value cv) k.w∧R k r cv:=by
 obtain⟨a,y,hcv,h1,h2⟩:=ld_ok (P:=P) hk hx h
 exact⟨y,by simp[execOp,ho,Instr.loadAt,Instr.sureAddr,hcv,h1],h2⟩
def zb0 (zO:Nat→Option (Nat×Nat))(cells:List V):List (Nat×V)→Option (List V)
 | []=>some cells
 | (i,v)::rest =>
   match zO i,cellsV v with
   | some (off,size),some cs=>if cs.length=size∧off+cs.length≤cells.length then zb0 zO (qa cells off cs) rest else none
   | _,_=>none
theorem zfD (l:List Value):∀ (n off:Nat) (cells:Array Value),(l.zipIdx n).foldl (fun cs (x:Value×Nat)=>cs.setIfInBounds (off+x.2) x.1) cells=yc cells (off+n) l:=by
 induction l with
 | nil=>intro n off cells;rfl
 | cons v l ih =>
   intro n off cells
   rw[List.zipIdx_cons,List.foldl_cons,yc]
   exact ih (n+1) off _
theorem ze9 {k:K}(zO:Nat→Option (Nat×Nat)):∀ (parts:List (Nat×V)) (cparts:List (Nat×Value)) (cells:List V) (ccells:Array Value) (r:List V),
 parts.map (·.1)=cparts.map (·.1)→(∀ (j:Nat) (p:Nat×V) (q:Nat×Value),parts[j]?=some p→cparts[j]?=some q→R k p.2 q.2) →
 ccells.size=cells.length→(∀ (j:Nat) (v:V),cells[j]?=some v→R k v (ccells.getD j undef))→zb0 zO cells parts=some r →
 ∃ cr,Instr.fill zO ccells cparts=some cr∧cr.size=r.length∧∀ (j:Nat) (v:V),r[j]?=some v→R k v (cr.getD j undef)
 | [],[],cells,ccells,r,_,_,hs,h,hr=>by
   simp only[zb0,Option.some.injEq] at hr
   subst hr
   exact⟨ccells,rfl,hs,h⟩
 | [],_::_,_,_,_,he,_,_,_,_=>by simp at he
 | _::_,[],_,_,_,he,_,_,_,_=>by simp at he
 | (i,v)::parts,(i',cv)::cparts,cells,ccells,r,he,hp,hs,h,hr=>by
   simp only[List.map_cons,List.cons.injEq] at he
   obtain⟨rfl,he⟩:=he
   have hv:=hp 0 (i,v) (i,cv) rfl rfl
   simp only at hv
   unfold zb0 at hr
   cases hpl:zO i with
   | none=>simp[hpl] at hr
   | some os =>
     obtain⟨off,size⟩:=os
     cases hcs:cellsV v with
     | none=>simp[hpl,hcs] at hr
     | some cs =>
       simp only[hpl,hcs] at hr
       by_cases hc:cs.length=size∧off+cs.length≤cells.length
       ·rw[if_pos hc] at hr
        obtain⟨h1,h2⟩:=vH hv hcs
        have hset:=zfD cv.cells.toList 0 off ccells
        rw[Nat.add_zero] at hset
        obtain⟨cr,e1,e2,e3⟩:=ze9 zO parts cparts (qa cells off cs) (yc ccells off cv.cells.toList) r he (fun j p q hj hq=>hp (j+1) p q (by simpa using hj) (by simpa using hq))
         (by rw[yQ,yW];exact hs)
         (zds cv.cells.toList cs cells ccells off (by simp;omega) (fun j u hu=>by
          have:=h2 j u hu
          simpa [List.getD_eq_getElem?_getD,Array.getD_eq_getD_getElem?] using this) hs h) hr
        refine⟨cr,?_,e2,e3⟩
        have hcond:(cv.cells.size≠size || off+cv.cells.size > ccells.size)=false:=by
         simp only[Bool.or_eq_false_iff,decide_eq_false_iff_not,ne_eq,Decidable.not_not]
         omega
        have hset':Array.foldl (fun cs (x:Value×Nat)=>cs.setIfInBounds (off+x.2) x.1) ccells cv.cells.zipIdx=yc ccells off cv.cells.toList:=by
         rw[← hset,← Array.foldl_toList,Array.toList_zipIdx]
        unfold Instr.fill
        simp only[hpl,hcond,Bool.false_eq_true,if_false]
        exact(congrArg (fun z=>Instr.fill zO z cparts) hset').trans e1
       ·rw[if_neg hc] at hr;cases hr
end Go.Fly
