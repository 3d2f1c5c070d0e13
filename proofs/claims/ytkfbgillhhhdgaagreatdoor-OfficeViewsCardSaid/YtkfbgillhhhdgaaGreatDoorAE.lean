/- Part of a proof. No conditions. -/
import Derived.Test.YtkfbgillhhhdgaaGreatDoorAD
import Derived.OrdersIn
set_option linter.unusedSimpArgs false
set_option linter.unusedVariables false
section
namespace Go.Fly
open Go
def undefV:V:=.tup []
theorem undefV_R (k:K):R k undefV undef:=.tup [] #[] rfl fun j v h=>by simp at h
noncomputable def vB (X:Cx) (ops:Array Oper):List Oper→St→(St→Prop)→Prop
 | [],s,Kn=>Kn s
 | o::rest,s,Kn =>
   match o.guard with
   | none=>yD X o s (fun s'=>vB X ops rest s' Kn)
   | some (j,want) =>
     match (ops[j]?).bind (·.dst) with
     | some d =>
       match s.tm.getD d .top with
       | .bool b=>(b=want→yD X o ⟨s.ck,s.tm.set d (.bool want),s.hp⟩ (fun s'=>vB X ops rest s' Kn)) ∧
        (b=!want→vB X ops rest ⟨s.ck,putTm (s.tm.set d (.bool (!want))) o.dst undefV,s.hp⟩ Kn)
       | .tup []=>vB X ops rest ⟨s.ck,putTm s.tm o.dst undefV,s.hp⟩ Kn
       | _=>False
     | none=>False
theorem Rel.setSlot {k0:K}{s:St}{a:Act}{w:World}(h:Rel k0 s a w){d:Nat}{b:Bool}(hd:s.tm.getD d .top=.bool b):Rel k0 ⟨s.ck,s.tm.set d (.bool b),s.hp⟩ a w∧a.tmps[d]?=some (.bool b):=by
 obtain⟨M,B,h1,h2,h3,h4⟩:=h
 have hd2:s.tm[d]?=some (.bool b):=by
  rw[List.getD_eq_getElem?_getD] at hd
  cases q:s.tm[d]? with
  | none=>rw[q] at hd;cases hd
  | some v=>rw[q] at hd;exact congrArg some hd
 have hlt:=(List.getElem?_eq_some_iff.1 hd2).1
 have hR:=(h3.2 d _ hd2).bool_inv
 have hlt2:d < a.tmps.size:=by rw[← h3.1];exact hlt
 refine⟨⟨M,B,h1,h2,⟨by simpa using h3.1,fun t v hv=>?_⟩,h4⟩,?_⟩
 ·rw[List.getElem?_set] at hv
  by_cases e:d=t
  ·subst e
   simp only[if_true,hlt,Option.some.injEq] at hv
   subst hv
   exact h3.2 d _ hd2
  ·simp only[e,if_false] at hv
   exact h3.2 t v hv
 ·rw[Array.getD_eq_getD_getElem?,Array.getElem?_eq_getElem hlt2,Option.getD_some] at hR
  rw[Array.getElem?_eq_getElem hlt2,hR]
theorem Rel.putUndef {k0:K}{s:St}{a:Act}{w:World}(h:Rel k0 s a w)(dst:Option Tmp):Rel k0 ⟨s.ck,putTm s.tm dst undefV,s.hp⟩ (a.put dst undef) w:=by
 obtain⟨M,B,h1,h2,h3,h4⟩:=h
 refine⟨M,B,h1,h2,h3.put (undefV_R _),?_⟩
 have:(a.put dst undef).defers=a.defers:=by cases dst <;> rfl
 rw[this]
 exact h4
theorem Rel.notBool {k0:K}{s:St}{a:Act}{w:World}(h:Rel k0 s a w){d:Nat}(hd:s.tm.getD d .top=.tup [])(b:Bool):a.tmps[d]?≠some (.bool b):=by
 obtain⟨M,B,h1,h2,h3,h4⟩:=h
 have hd2:s.tm[d]?=some (.tup []):=by
  rw[List.getD_eq_getElem?_getD] at hd
  cases q:s.tm[d]? with
  | none=>rw[q] at hd;cases hd
  | some v=>rw[q] at hd;exact congrArg some hd
 obtain⟨xs,hx,_⟩:=(h3.2 d _ hd2).tup_inv
 intro q
 rw[Array.getD_eq_getD_getElem?,q,Option.getD_some] at hx
 cases hx
theorem za5 {X:Cx}(hX:X.Ok){ops:Array Oper}{Q:Exit→Act→World→Prop}:∀ (l:List Oper) (s:St) (Kn:St→Prop),vB X ops l s Kn →
 (∀ s' a' w',Kn s'→Rel X.k0 s' a' w'→Q .normal a' w')→∀ a w,Rel X.k0 s a w→wpListIn (WF X.r) 0 X.P ops Q l a w
 | [],s,Kn,h,hQ,a,w,hr=>hQ s a w h hr
 | o::rest,s,Kn,h,hQ,a,w,hr=>by
   unfold vB at h
   unfold wpListIn
   cases hg:o.guard with
   | none =>
     simp only[hg] at h
     have hw:Region.wanted o (yielded ops a.tmps)=true:=by simp[Region.wanted,hg]
     rw[if_pos hw]
     exact zeb hX h a w hr _ _ fun s' a' w' hk hr'=>za5 hX rest s' Kn hk hQ a' w' hr'
   | some jw =>
     obtain⟨j,want⟩:=jw
     simp only[hg] at h
     cases hj:(ops[j]?).bind (·.dst) with
     | none=>simp[hj] at h
     | some d =>
       simp only[hj] at h
       cases hd:s.tm.getD d .top with
       | bool b =>
         simp only[hd] at h
         obtain⟨hr2,ht⟩:=hr.setSlot hd
         have hy:yielded ops a.tmps j=some b:=by simp[yielded,hj,ht]
         by_cases e:b=want
         ·subst e
          have hw:Region.wanted o (yielded ops a.tmps)=true:=by simp[Region.wanted,hg,hy]
          rw[if_pos hw]
          exact zeb hX (h.1 rfl) a w hr2 _ _ fun s' a' w' hk hr'=>za5 hX rest s' Kn hk hQ a' w' hr'
         ·have e2:b=!want:=by cases b <;> cases want <;> simp_all
          subst e2
          have hw:¬ Region.wanted o (yielded ops a.tmps)=true:=by
           simp only[Region.wanted,hg,hy]
           cases want <;> simp
          rw[if_neg hw]
          refine⟨fun _ _=>trivial,za5 hX rest _ Kn (h.2 rfl) hQ _ w ?_⟩
          exact hr2.putUndef o.dst
       | tup vs =>
         cases vs with
         | cons v vs=>rw[hd] at h;exact h.elim
         | nil =>
           simp only[hd] at h
           have hy:yielded ops a.tmps j=none:=by
            have:=hr.notBool hd
            unfold yielded
            rw[hj]
            split
            ·rename_i b hb;exact absurd hb (this b)
            ·rfl
           have hw:¬ Region.wanted o (yielded ops a.tmps)=true:=by
            simp[Region.wanted,hg,hy]
           rw[if_neg hw]
           refine⟨fun _ _=>trivial,za5 hX rest _ Kn h hQ _ w ?_⟩
           exact hr.putUndef o.dst
       | _=>rw[hd] at h;exact h.elim
theorem Rel.tick {k0:K}{s:St}{a:Act}{w:World}(h:Rel k0 s a w):Rel k0 ⟨s.ck+1,s.tm,s.hp⟩ a w:=by
 obtain⟨M,B,h1,h2,h3,h4⟩:=h
 have hnm:∀ l,zjB s.ck s.hp l→zjB (s.ck+1) s.hp l:=by
  rintro l (q | ⟨q,_⟩)
  ·exact .inl (by omega)
  ·exact .inl (by omega)
 have st:Step (mkK w M B s.hp s.ck) (mkK w M B s.hp (s.ck+1)) :=
  ⟨rfl,rfl,rfl,Nat.le_refl _,fun _ _ _=>rfl,fun _ h=>.inl h,fun _ _ h=>h,fun _ _ _ h=>h,hnm,fun l hl o' ho'=>(Step.refl (mkK w M B s.hp s.ck)).names l hl o' ho'⟩
 have hown:∀ b,(mkK w M B s.hp s.ck).owned b→(mkK w M B s.hp s.ck).M b:=fun b hb=>(h2.own b hb).1
 exact⟨M,B,h1.trans st,⟨h2.lt,h2.own,fun l o q=>hnm l (h2.nm l o q),h2.inj,fun l o q=>ObjOk.step st h2 q q rfl fun _ _ _=>rfl⟩,h3.step st hown,h4.step st⟩
theorem T.region {X:Cx}(hX:X.Ok){id:Nat}{ops:Array Oper}{s:St}{Q:Exit→St→Prop}(h:vB X ops ops.toList ⟨s.ck+1,s.tm,s.hp⟩ (Q .normal)):T X (.region id ops false) s Q:=by
 intro a w hr
 exact wpIn_region_list (za5 hX _ _ _ h (fun s' a' w' hk hr'=>⟨s',hk,hr'⟩) a w hr.tick)
noncomputable def ex (X:Cx):Code→St→(Exit→St→Prop)→Prop
 | .skip,s,Q=>Q .normal s
 | .label _,s,Q=>Q .normal s
 | .exit id,s,Q=>Q (.exit id) s
 | .ret,s,Q=>Q .ret s
 | .seq x y,s,Q=>ex X x s (zer (fun s'=>ex X y s' Q) Q)
 | .cond c x y,s,Q=>match ev X s c with
   | .bool t=>(t=true→ex X x s Q)∧(t=false→ex X y s Q)
   | _=>False
 | .block id c,s,Q=>ex X c s (jB id Q)
 | .scope c,s,Q=>ex X c s (zaR Q)
 | .region _ ops false,s,Q=>vB X ops ops.toList ⟨s.ck+1,s.tm,s.hp⟩ (Q .normal)
 | c,s,Q=>T X c s Q
def zki (X:Cx)(s:St):ResultVar→Option V
 | .tmp t=>some (s.tm.getD t .top)
 | .cell a t=>ld X.P s.hp t (s.tm.getD a .top)
def zgo (X:Cx)(s:St):List ResultVar→Option (List V)
 | []=>some []
 | r::rs=>match zki X s r,zgo X s rs with
   | some v,some vs=>some (v::vs)
   | _,_=>none
def yR (X:Cx)(s:St)(rs:List ResultVar):Option V :=
 match zgo X s rs with
 | some [v]=>some v
 | some vs=>some (.tup vs)
 | none=>none
theorem R.same {k k':K}(hhp:k'.hp=k.hp)(hB:k'.B=k.B)(hnm:∀ l,k.nm l→k'.nm l)(hw:∀ b,b < k.w.heap.size→¬ k.M b→b < k'.w.heap.size∧k'.w.heap[b]?=k.w.heap[b]?∧¬ k'.M b)
 {v:V} {cv:Value} (h:R k v cv):R k' v cv:=by
 induction h with
 | top cv=>exact .top cv
 | int ik n=>exact .int ik n
 | bool b=>exact .bool b
 | flt fk n=>exact .flt fk n
 | cplx fk a b=>exact .cplx fk a b
 | str s=>exact .str s
 | nilp=>exact .nilp
 | rawp L=>exact .rawp L
 | mapp L=>exact .mapp L
 | tabp xs b ty fz hM hb hh =>
   obtain⟨q1,q2,q3⟩:=hw b hb hM
   exact .tabp xs b ty fz q3 q1 (by rw[q2];exact hh)
 | mapc o b hM hb hh =>
   obtain⟨q1,q2,q3⟩:=hw b hb hM
   exact .mapc o b q3 q1 (by rw[q2];exact hh)
 | nilfn=>exact .nilfn
 | nils=>exact .nils
 | ptr l off cv h1 hnl h=>exact .ptr l off cv h1 (hnm l hnl) (by rw[hhp,hB];exact h)
 | eptr l n sz i off cv h1 hnl h=>exact .eptr l n sz i off cv h1 (hnm l hnl) (by rw[hhp,hB];exact h)
 | psl l n off len cv h1 hnl h=>exact .psl l n off len cv h1 (hnm l hnl) (by rw[hhp,hB];exact h)
 | cptr cs b off x hM hb hp hc h ih =>
   obtain⟨q1,q2,q3⟩:=hw b hb hM
   exact .cptr cs b off x q3 q1 hp (fun j hj=>by rw[World.cell_eq_of_heap q2];exact hc j hj) ih
 | sl0 sz get oa cap=>exact .sl0 sz get oa cap
 | sl n sz get b off cap x hM hb hcap hp hl hc h ih =>
   obtain⟨q1,q2,q3⟩:=hw b hb hM
   exact .sl n sz get b off cap x q3 q1 hcap hp hl (fun i j hi hj=>by rw[World.cell_eq_of_heap q2];exact hc i j hi hj) ih
 | msl l off len cv h1 hnl h=>exact .msl l off len cv h1 (hnm l hnl) (by rw[hhp,hB];exact h)
 | bsl l off len cv h1 hnl h=>exact .bsl l off len cv h1 (hnm l hnl) (by rw[hhp,hB];exact h)
 | fn f first cap fs cs h1 h2 hf hc ihf ihc=>exact .fn f first cap fs cs h1 h2 ihf ihc
 | agg cs xs hs h ih=>exact .agg cs xs hs ih
 | tup cs xs hs h ih=>exact .tup cs xs hs ih
theorem res1_ok {X:Cx}{s:St}{k:K}{tmps:Array Value}(hk:HeapOk k)(hhp:k.hp=s.hp)(htm:zag k s.tm tmps){r:ResultVar}{v:V}(h:zki X s r=some v) :
 ∃ cv,((match r with | .tmp t=>pure (tmps.getD t undef) | .cell a t=>do loadVar t (← asAddr (tmps.getD a undef)):Sem Value)).run X.P k.w=.ok cv k.w∧R k v cv:=by
 have ht:∀ t,R k (s.tm.getD t .top) (tmps.getD t undef):=by
  intro t
  cases q:s.tm[t]? with
  | none=>simp only[List.getD_eq_getElem?_getD,q,Option.getD_none];exact .top _
  | some v=>simp only[List.getD_eq_getElem?_getD,q,Option.getD_some];exact htm.2 t v q
 cases r with
 | tmp t =>
   simp only[zki,Option.some.injEq] at h
   subst h
   exact⟨_,rfl,ht t⟩
 | cell a t =>
   simp only[zki] at h
   rw[← hhp] at h
   obtain⟨ad,y,h1,h2,h3⟩:=ld_ok (P:=X.P) hk (ht a) h
   exact⟨y,by simp[h1,asAddr,h2],h3⟩
theorem zkZ {X:Cx}{s:St}{k:K}{tmps:Array Value}(hk:HeapOk k)(hhp:k.hp=s.hp)(htm:zag k s.tm tmps):∀ {rs:List ResultVar} {vs:List V},zgo X s rs=some vs →
 ∃ cvs:List Value,(rs.mapM (fun r=>(match r with | .tmp t=>pure (tmps.getD t undef) | .cell a t=>do loadVar t (← asAddr (tmps.getD a undef)):Sem Value))).run X.P k.w=.ok cvs k.w ∧
  cvs.length=vs.length∧∀ (j:Nat) (v:V),vs[j]?=some v→R k v (cvs.toArray.getD j undef)
 | [],vs,h=>by
   simp only[zgo,Option.some.injEq] at h
   subst h
   exact⟨[],by simp,rfl,by simp⟩
 | r::rs,vs,h=>by
   unfold zgo at h
   cases h1:zki X s r with
   | none=>simp[h1] at h
   | some v =>
     cases h2:zgo X s rs with
     | none=>simp[h1,h2] at h
     | some vs' =>
       simp only[h1,h2,Option.some.injEq] at h
       subst h
       obtain⟨cv,e1,e2⟩:=res1_ok hk hhp htm h1
       obtain⟨cvs,f1,f2,f3⟩:=zkZ hk hhp htm h2
       refine⟨cv::cvs,?_,by simp[f2],fun j u hu=>?_⟩
       ·rw[List.mapM_cons,Sem.run_bind,e1,Result.andThen_ok,Sem.run_bind,f1]
        rfl
       ·cases j with
        | zero =>
          simp only[List.getElem?_cons_zero,Option.some.injEq] at hu
          subst hu
          simpa [Array.getD_eq_getD_getElem?] using e2
        | succ j =>
          have:=f3 j u (by simpa using hu)
          simpa [Array.getD_eq_getD_getElem?] using this
theorem zcJ {X:Cx}{s:St}{k:K}{tmps:Array Value}(hk:HeapOk k)(hhp:k.hp=s.hp)(htm:zag k s.tm tmps){fn:Func}{v:V}(h:yR X s fn.results.toList=some v) :
 ∃ rv,(results fn tmps).run X.P k.w=.ok rv k.w∧R k v rv:=by
 unfold yR at h
 cases hl:zgo X s fn.results.toList with
 | none=>simp[hl] at h
 | some vs =>
   obtain⟨cvs,f1,f2,f3⟩:=zkZ hk hhp htm hl
   have hrun:∀ (rv:Value),(if h:cvs.toArray.size=1 then cvs.toArray[0] else .tuple cvs.toArray)=rv→(results fn tmps).run X.P k.w=.ok rv k.w:=by
    intro rv hrv
    unfold results
    rw[Array.mapM_eq_mapM_toList]
    simp only[Sem.run_bind,Sem.run_map,Sem.run_pure]
    rw[← hrv]
    exact congrArg (fun z:Result (List Value)=>(z.andThen fun a w'=>Result.ok a.toArray w').andThen fun a w'=>Result.ok (if h:a.size=1 then a[0] else Value.tuple a) w') f1
   simp only[hl] at h
   match vs,h,f2,f3 with
   | [u],h,f2,f3 =>
     simp only[Option.some.injEq] at h
     subst h
     match cvs,f2,f3,hrun with
     | [cv],_,f3,hrun=>exact⟨cv,hrun cv (by simp),by simpa [Array.getD_eq_getD_getElem?] using f3 0 u rfl⟩
   | [],h,f2,f3 =>
     simp only[Option.some.injEq] at h
     subst h
     match cvs,f2,hrun with
     | [],_,hrun=>exact⟨.tuple #[],hrun _ (by simp),.tup _ _ rfl (by simp)⟩
   | u1::u2::us,h,f2,f3 =>
     simp only[Option.some.injEq] at h
     subst h
     refine⟨.tuple cvs.toArray,hrun _ ?_,.tup _ _ (by simpa using f2) f3⟩
     rw[dif_neg]
     simp only[List.size_toArray,f2,List.length_cons]
     omega
def zo (v u:V):Prop:=∀ (k:K) (cv:Value),R k v cv→R k u cv
theorem zo.refl (v:V):zo v v:=fun _ _ h=>h
theorem zo.of_eq {v u:V}(h:v=u):zo v u:=h ▸ zo.refl v
def rnV (l rl:Loc)(v:V):V :=
 match v with
 | .msl l' off len=>if l'=l then .msl rl off len else .top
 | v=>v
def rnT (l rl:Loc)(v:V):V :=
 match v with
 | .tup vs=>.tup (vs.map (rnV l rl))
 | v=>rnV l rl v
def znz (X:Cx)(s:St)(rs:List ResultVar)(rl:Loc)(out:Out):Prop :=
 match yR X s rs with
 | none=>False
 | some v =>
   match out.obj with
   | none=>zo (frz 5 s.hp v) out.val
   | some ob=>∃ l n sz get get',ob=.arr n sz get'∧s.hp l=some (.arr n sz get)∧(∀ i,i < n→get' i=get i) ∧
    (match v with | .tup vs=>∀ u∈vs,Pu u∨u=.msl l 0 n | v=>v=.msl l 0 n)∧out.val=rnT l rl v∧Pu (.sl n sz get')
def retQ (X:Cx)(rs:List ResultVar)(rl:Loc)(out:Out):Exit→St→Prop
 | .normal,s | .ret,s=>znz X s rs rl out
 | _,_=>False
theorem zbt {P:Program}{fn:Func}{tmps:Array Value}{Rr:Ending→World→Prop}:∀ (rs:List Nat) (w:World),rs.Nodup→(∀ r∈rs,w.heap[r]?=some (.deferred (some []))) →
 (∀ w':World,w'.os=w.os→w'.tape=w.tape→w'.output=w.output→w'.heap.size=w.heap.size→(∀ b,b∉rs→w'.heap[b]?=w.heap[b]?)→∃ v,(results fn tmps).run P w'=.ok v w'∧Rr (.returned v) w') →
 LeavesInM (WF none) 0 P fn tmps Rr (rs.map fun r=>{ target:=.collected r,args:=#[] }) .returning w
 | [],w,_,_,h=>h w rfl rfl rfl rfl (fun _ _=>rfl)
 | r::rs,w,hnd,hr,h=>by
   have hr0:=hr r (by simp)
   refine⟨by simp,.inl ⟨r,w.putObj r (.deferred none),rfl,run_takeDeferred hr0,?_⟩⟩
   have hne:∀ b,b≠r→(w.putObj r (.deferred none)).heap[b]?=w.heap[b]?:=fun b hb=>World.putObj_heap_other hb
   refine zbt rs _ (List.nodup_cons.1 hnd).2 (fun r' hr'=>?_) fun w' h1 h2 h3 h4 h5=>h w' h1 h2 h3 (h4.trans (by simp)) fun b hb=>?_
   ·rw[hne r' (fun e=>(List.nodup_cons.1 hnd).1 (e ▸ hr'))]
    exact hr r' (by simp[hr'])
   ·rw[h5 b (fun q=>hb (by simp[q])),hne b (fun e=>hb (by simp[e]))]
def St.enter (args:List V)(ntmps:Nat):St:=⟨1,args++List.replicate (ntmps - args.length) .top,fun _=>none⟩
theorem Holds.of_T {P:Program}{G:Nat→V}{f:FuncId}{C:Contract}{fn:Func}{c:Code}(hf:P.funcs[f]?=some fn)(hb:fn.body=some c)(Γ:FuncId→Option Contract)(hΓ:∀ g C,Γ g=some C→Holds P G g C)
 (hG:∀ g,Pu (G g)∨G g=.top)
 (h:∀ (k0:K) (rl:Loc) (args:List V),(⟨P,Γ,G,none,k0⟩:Cx).Ok→(∀ a∈args,Pu a)→(C rl args).pre→T ⟨P,Γ,G,none,k0⟩ c (St.enter args fn.ntmps) (retQ ⟨P,Γ,G,none,k0⟩ fn.results.toList rl (C rl args))) :
 Holds P G f C:=by
 intro rl args w0 M0 vs hM0 hG0 hpu hargs hpre
 have hX:(⟨P,Γ,G,none,yN w0 M0⟩:Cx).Ok:=⟨hΓ,hG,hG0,fun b ⟨l,o,c,h,_⟩=>by cases h⟩
 have hex:=h (yN w0 M0) rl args hX hpu hpre
 let k1:K:=mkK w0 M0 (fun _=>none) (fun _=>none) 1
 have hst0:Step (yN w0 M0) k1:=⟨rfl,rfl,rfl,Nat.le_refl _,fun _ _ _=>rfl,fun _ h=>.inl h,fun _ _ h=>h,fun _ _ _ h=>h,fun l h=>h.elim,fun l h=>h.elim⟩
 have hho0:HeapOk k1:=⟨hM0,(fun b ⟨l,o,c,h,_⟩=>by cases h),(fun l o h=>by cases h),(fun l l' b c c' o o' h=>by cases h),(fun l o h=>by cases h)⟩
 have htm0:zag k1 (St.enter args fn.ntmps).tm (vs++Array.replicate (fn.ntmps - vs.size) undef):=by
  refine⟨by simp[St.enter,hargs.1],fun t v hv=>?_⟩
  simp only[St.enter] at hv
  by_cases ht:t < args.length
  ·rw[List.getElem?_append_left ht] at hv
   have:=(hargs.2 t v hv).step hst0 (fun b ⟨l,o,c,h,_⟩=>by cases h)
   simp only[Array.getD_eq_getD_getElem?] at this ⊢
   rwa [Array.getElem?_append_left (by rw[hargs.1];exact ht)]
  ·rw[List.getElem?_append_right (by omega),List.getElem?_replicate] at hv
   split at hv
   ·cases hv;exact .top _
   ·cases hv
 have hrel:Rel (yN w0 M0) (St.enter args fn.ntmps) { tmps:=vs++Array.replicate (fn.ntmps - vs.size) undef,defers:=[] } w0 :=
  ⟨M0,fun _=>none,hst0,hho0,htm0,[],rfl,List.nodup_nil,by simp⟩
 have hwp:=hex _ w0 hrel
 refine qN.1 (callsIn_of_wp_marks (F:=WF none) (n:=0) hf hb trivial (wpIn_mono hwp fun e a w ⟨s,hq,hr⟩=>?_))
 have main:znz ⟨P,Γ,G,none,yN w0 M0⟩ s fn.results.toList rl (C rl args)→LeavesInM (WF none) 0 P fn a.tmps (fun e w'=>∃ rv B,e=.returned rv ∧
  Step (yN w0 M0) (ql w' M0 rl (C rl args).obj B)∧HeapOk (ql w' M0 rl (C rl args).obj B)∧R (ql w' M0 rl (C rl args).obj B) (C rl args).val rv) a.defers .returning w:=by
  intro hret
  obtain⟨M,B,hst,hho,htm,rs,hds,hnd,hmk⟩:=hr
  rw[hds]
  refine zbt rs w hnd (fun r hr=>(hmk r hr).1) fun w' e1 e2 e3 e4 e5=>?_
  have hsame:∀ b,b < w.heap.size→(¬ M b∨(mkK w M B s.hp s.ck).owned b)→b < w'.heap.size∧w'.heap[b]?=w.heap[b]?:=by
   intro b hb hc
   refine⟨by omega,e5 b fun hr=>?_⟩
   obtain⟨_,p1,p2,_⟩:=hmk b hr
   rcases hc with hc | hc
   ·exact hc p1
   ·exact p2 hc
  let k2:K:=mkK w' M B s.hp s.ck
  have hR2:∀ {v:V} {cv:Value},R (mkK w M B s.hp s.ck) v cv→R k2 v cv:=fun h=>R.same (k:=mkK w M B s.hp s.ck) (k':=k2) rfl rfl (fun _ h=>h) (fun b hb hM=>⟨(hsame b hb (.inl hM)).1,(hsame b hb (.inl hM)).2,hM⟩) h
  have htm2:zag k2 s.tm a.tmps:=⟨htm.1,fun t v hv=>hR2 (htm.2 t v hv)⟩
  have hho2:HeapOk k2:=by
   refine⟨fun b hb=>by have:=hho.lt b hb;show b < w'.heap.size;rw[e4];exact this,fun b hb=>⟨(hho.own b hb).1,by have:=(hho.own b hb).2;show b < w'.heap.size;rw[e4];exact this⟩,hho.nm,hho.inj,fun l o h=>?_⟩
   have ho:=hho.obj l o h
   cases o with
   | dead=>exact ho
   | raw r=>exact⟨ho.1,((hsame _ (wt ho.2) (.inr ⟨l,_,0,h,ho.1⟩)).2).trans ho.2⟩
   | cells cs =>
     obtain⟨b,c,xs,ty,fz,h1,h2,h3,h4,h5⟩:=ho
     exact⟨b,c,xs,ty,fz,h1,((hsame b (wt h2) (.inr ⟨l,_,c,h,h1⟩)).2).trans h2,h3,h4,fun j v hv=>hR2 (h5 j v hv)⟩
   | buf c sz get =>
     obtain⟨g1,b,xs,ty,fz,h1,h2,h3,h4,h5⟩:=ho
     exact⟨g1,b,xs,ty,fz,h1,((hsame b (wt h2) (.inr ⟨l,_,c,h,h1⟩)).2).trans h2,h3,h4,fun i j v hi hv=>hR2 (h5 i j v hi hv)⟩
   | arr n sz get =>
     obtain⟨h1,h2,h3⟩:=ho
     refine⟨h1,h2,?_⟩
     cases hq:(mkK w M B s.hp s.ck).B l with
     | none =>
       have:k2.B l=none:=hq
       rw[this]
       simpa [hq] using h3
     | some bc =>
       obtain⟨b,c⟩:=bc
       have:k2.B l=some (b,c):=hq
       rw[this]
       simp only[hq] at h3
       obtain⟨g1,xs,ty,fz,g2,g3,g4,g5⟩:=h3
       exact⟨g1,xs,ty,fz,((hsame b (wt g2) (.inr ⟨l,_,c,h,hq⟩)).2).trans g2,g3,g4,fun i j v hi hv=>hR2 (g5 i j v hi hv)⟩
  have hown0:∀ b,(mkK w M B s.hp s.ck).owned b→w0.heap.size≤b:=fun b hb=>by
   rcases hst.own b hb with⟨l,o,c,q,_⟩ | q
   ·cases q
   ·exact q
  have hM0M:∀ b,M0 b→M b:=fun b hb=>hst.M2 b (hM0 b hb) (fun⟨l,o,c,q,_⟩=>by cases q) hb
  have hkeep0:∀ b,b < w0.heap.size→w'.heap[b]?=w0.heap[b]?:=by
   intro b hb
   have h1:w.heap[b]?=w0.heap[b]?:=hst.keep b hb (fun⟨l,o,c,q,_⟩=>by cases q)
   rw[e5 b (fun hr=>by have:=(hmk b hr).2.2.2;have h9:w0.heap.size≤b:=this;omega),h1]
  have hsz0:w0.heap.size≤w'.heap.size:=by have:=hst.size;have h9:w0.heap.size≤w.heap.size:=this;omega
  unfold znz at hret
  cases hv:yR ⟨P,Γ,G,none,yN w0 M0⟩ s fn.results.toList with
  | none=>rw[hv] at hret;exact hret.elim
  | some v =>
    rw[hv] at hret
    simp only at hret
    obtain⟨rv,hrun,hRv⟩:=zcJ (X:=⟨P,Γ,G,none,yN w0 M0⟩) hho2 rfl htm2 hv
    refine⟨rv,hrun,rv,?_⟩
    cases ho:(C rl args).obj with
    | none =>
      rw[ho] at hret
      simp only at hret
      refine⟨none,rfl,⟨e1.trans hst.os,e2.trans hst.tape,e3.trans hst.output,hsz0,fun b hb _=>hkeep0 b hb,fun b ⟨l,o,c,q,_⟩=>?_,fun b hb hm=>?_,fun b hb _ hm=>.inl hm,fun l q=>q.elim,fun l q=>q.elim⟩,
       ⟨fun b hb=>?_,fun b ⟨l,o,c,q,_⟩=>?_,fun l o q=>?_,fun l l' b c c' o o' q=>?_,fun l o q=>?_⟩,?_⟩
      ·simp[ql,zes] at q
      ·rcases hm with hm | ⟨hm,_⟩
       ·exact hm
       ·cases hm
      ·rcases hb with hb | ⟨hb,_⟩
       ·exact Nat.lt_of_lt_of_le (hM0 b hb) hsz0
       ·cases hb
      ·simp[ql,zes] at q
      ·simp[ql,zes] at q
      ·simp[ql,zes] at q
      ·simp[ql,zes] at q
      ·refine hret _ _ (frz_R (k:=k2) (k':=ql w' M0 rl none none) hho2 (fun b hb hc=>⟨hb,rfl,fun q=>?_⟩) 5 hRv).2
       rcases q with q | ⟨q,_⟩
       ·rcases hc with hc | hc
        ·exact hc (hM0M b q)
        ·have h1:=hown0 b hc
         have h2:=hM0 b q
         omega
       ·cases q
    | some ob =>
      rw[ho] at hret
      simp only at hret
      obtain⟨l,n,sz,get,get',rfl,hl,hget,hshape,hval,hpuo⟩:=hret
      have hpuo':∀ (i j:Nat) (v:V),i < n→(get' i)[j]?=some v→Pu v:=by
       cases hpuo with
       | sl _ _ _ h=>exact h
      rw[hval]
      obtain⟨g1,g2,g3⟩:=hho2.obj l _ hl
      let kO:K:=ql w' M0 rl (some (.arr n sz get')) (B l)
      have hnot:∀ b,¬ k2.M b→¬ kO.M b:=by
       rintro b hb (q | ⟨_,c,q⟩)
       ·exact hb (hM0M b q)
       ·exact hb (hho2.own b ⟨l,_,c,hl,q⟩).1
      have hRO:∀ {v:V} {cv:Value},Pu v→R k2 v cv→R kO v cv:=fun hp h=>R.pure (k:=k2) (k':=kO) (fun b hb hM=>⟨hb,rfl,hnot b hM⟩) hp h
      have hownO:∀ b,kO.owned b→∃ c,B l=some (b,c):=by
       rintro b ⟨l',o',c,q1,q2⟩
       exact⟨c,q2⟩
      have hpart:∀ {u:V} {cv:Value},(Pu u∨u=.msl l 0 n)→R k2 u cv→R kO (rnV l rl u) cv:=by
       intro u cv hu h
       rcases hu with hu | rfl
       ·have:rnV l rl u=u:=by cases hu <;> rfl
        rw[this]
        exact hRO hu h
       ·simp only[rnV,if_true]
        cases h with
        | msl _ _ _ _ h1 hn hh =>
          obtain⟨q1,q2⟩:=hh _ _ _ hl
          refine .msl _ _ _ _ h1 rfl fun n' sz' get2 hg=>?_
          have:(if rl=rl then some (AObj.arr n sz get') else none)=some (.arr n' sz' get2):=hg
          rw[if_pos rfl] at this
          cases this
          exact⟨q1,q2⟩
      refine⟨B l,rfl,⟨e1.trans hst.os,e2.trans hst.tape,e3.trans hst.output,hsz0,fun b hb _=>hkeep0 b hb,fun b hb=>?_,fun b hb hm=>?_,fun b hb _ hm=>.inl hm,fun l q=>q.elim,fun l q=>q.elim⟩,
       ⟨fun b hb=>?_,fun b hb=>?_,fun l' o' q=>?_,fun l1 l2 b c c' o1 o2 q1 q2 q3 q4=>?_,fun l' o' q=>?_⟩,?_⟩
      ·obtain⟨c,q⟩:=hownO b hb
       exact .inr (hown0 b ⟨l,_,c,hl,q⟩)
      ·rcases hm with hm | ⟨_,c,q⟩
       ·exact hm
       ·have h1:=hown0 b ⟨l,_,c,hl,q⟩
        have h2:b < w0.heap.size:=hb
        omega
      ·rcases hb with hb | ⟨_,c,q⟩
       ·exact Nat.lt_of_lt_of_le (hM0 b hb) hsz0
       ·exact(hho2.own b ⟨l,_,c,hl,q⟩).2
      ·obtain⟨c,q⟩:=hownO b hb
       exact⟨.inr ⟨rfl,c,q⟩,(hho2.own b ⟨l,_,c,hl,q⟩).2⟩
      ·have:(if l'=rl then some (AObj.arr n sz get') else none)=some o':=q
       split at this
       ·assumption
       ·cases this
      ·have f:∀ l o,(ql w' M0 rl (some (.arr n sz get')) (B l)).hp l=some o→l=rl:=by
        intro l o q
        have:(if l=rl then some (AObj.arr n sz get') else none)=some o:=q
        split at this
        ·assumption
        ·cases this
       have a1:(if l1=rl then some (AObj.arr n sz get') else none)=some o1:=q1
       have a2:(if l2=rl then some (AObj.arr n sz get') else none)=some o2:=q2
       split at a1
       ·split at a2
        ·rename_i x1 x2;rw[x1,x2]
        ·cases a2
       ·cases a1
      ·have a1:(if l'=rl then some (AObj.arr n sz get') else none)=some o':=q
       split at a1
       ·cases a1
        refine⟨fun i hi=>by rw[hget i hi];exact g1 i hi,trivial,?_⟩
        show match B l with
         | none=>n=0
         | some (b,c)=>n≤c∧∃ xs ty fz,w'.heap[b]?=some (.cells xs ty fz)∧(∀ o:Nat,¬ (fz.1≤o∧o < fz.2))∧xs.size=c * sz ∧
          ∀ (i j:Nat) (v:V),i < n→(get' i)[j]?=some v→R kO v (xs.getD (i * sz+j) undef)
        have g3':match B l with
         | none=>n=0
         | some (b,c)=>n≤c∧∃ xs ty fz,w'.heap[b]?=some (.cells xs ty fz)∧(∀ o:Nat,¬ (fz.1≤o∧o < fz.2))∧xs.size=c * sz ∧
          ∀ (i j:Nat) (v:V),i < n→(get i)[j]?=some v→R k2 v (xs.getD (i * sz+j) undef):=g3
        cases hq:B l with
        | none=>simpa [hq] using g3'
        | some bc =>
          obtain⟨b,c⟩:=bc
          simp only[hq] at g3'
          obtain⟨a1,xs,ty,fz,a2,a3,a4,a5⟩:=g3'
          exact⟨a1,xs,ty,fz,a2,a3,a4,fun i j v hi hv=>hRO (hpuo' i j v hi hv) (a5 i j v hi (by rw[hget i hi] at hv;exact hv))⟩
       ·cases a1
      ·cases v with
       | tup us =>
         simp only at hshape
         obtain⟨xs,rfl,hs,hr⟩:=hRv.tup_inv
         refine .tup _ _ (by simpa using hs) fun j u hu=>?_
         obtain⟨x,hx,rfl⟩:=wm hu
         exact hpart (hshape x (yi hx)) (hr j x hx)
       | _ =>
         simp only at hshape
         first
          | (cases hshape;exact hpart (.inr rfl) hRv)
          | (cases hshape)
 cases e with
 | normal=>exact main hq
 | ret=>exact main hq
 | _=>exact hq.elim
abbrev Eff:=Prop×V×Heap
def efV (hp:Heap)(r:Option V):Option Eff:=match r with | some v=>some (True,v,hp) | none=>none
def efP (hp:Heap)(r:Option (Prop×V)):Option Eff:=match r with | some (p,v)=>some (p,v,hp) | none=>none
def efB (r:Option (V×Heap)):Option Eff:=match r with | some (v,hp)=>some (True,v,hp) | none=>none
def efS (r:Option (Prop×Heap)):Option Eff:=match r with | some (p,hp)=>some (p,.top,hp) | none=>none
def vy (ck:Nat)(hp:Heap):St:=⟨ck,[],hp⟩
noncomputable def zk9 (X:Cx) (ck:Nat) (hp:Heap) (dst:Option Tmp) (x:V) (args:List V):Option Eff :=
 match x with
 | .fn (.func f) first cap=>match selC X dst f with
   | some C=>some (zl X.P f∧kp (vy ck hp) dst C (first++args++cap),(C (ck,dst.getD 0) ((first++args++cap).map (frz 5 hp))).val,
    zc4 hp (ck,dst.getD 0) (C (ck,dst.getD 0) ((first++args++cap).map (frz 5 hp))).obj)
   | none=>none
 | _=>none
noncomputable def zbl (X:Cx) (ck:Nat) (hp:Heap) (dst:Option Tmp) (b:Builtin) (args:List V) (ts:List TypeId):Option Eff :=
 match b,args,ts with
 | .len,[x],[t]=>efP hp (zdY X.P hp t x)
 | .append,[x,y],[t,t2]=>if zfy x=true then none else if isOwn X dst=true then appendN X.P (vy ck hp) dst t t2 x y else if zcv X dst=true then appendZ X.P (vy ck hp) dst t t2 x y else vC X.P (vy ck hp) dst t t2 x y
 | .copy,[x,y],[t,_]=>if zfy x=true then copyB X.P (vy ck hp) t x y else none
 | .max,l,_=>efV hp (extV true l)
 | .min,l,_=>efV hp (extV false l)
 | _,_,_=>none
noncomputable def opE (X:Cx) (o:Oper) (ck:Nat) (hp:Heap) (ρ:Operand→V):Option Eff :=
 match o.op with
 | .move x | .assign x=>some (True,ρ x,hp)
 | .pick c a b=>efV hp (zjn (ρ c) (ρ a) (ρ b))
 | .alloc t=>match tzero X.P t with
   | some z=>efB (zcC (vy ck hp) o.dst z)
   | none=>none
 | .box _ x=>if zcv X o.dst=true then efP hp (iceV (ρ x)) else efB (zcC (vy ck hp) o.dst (ρ x))
 | .build t parts=>efV hp (zdc X.P t (parts.toList.map fun x=>(x.1,ρ x.2)))
 | .buildSlice t len parts=>if zcv X o.dst=true then iceS X.P (vy ck hp) o.dst t len (parts.toList.map fun x=>(x.1,ρ x.2)) else wM X.P (vy ck hp) o.dst t len (parts.toList.map fun x=>(x.1,ρ x.2))
 | .load t x=>efV hp (ld X.P hp t (ρ x))
 | .store t x y=>efS (sto X.P hp t (ρ x) (ρ y))
 | .nilCheck x=>efV hp (y7 hp (ρ x))
 | .binOp op t x y _=>efP hp (binV X.P op t (ρ x) (ρ y))
 | .unOp op _ x=>efP hp (unV op (ρ x))
 | .convert src dst x=>match kn X.P hp src dst (ρ x) with
   | some r=>some r
   | none=>efP hp (zcx X.P src dst (ρ x))
 | .makeFunc f first cap=>some (True,.fn f (first.toList.map ρ) (cap.toList.map ρ),hp)
 | .makeSlice t len cap=>yj X.P (vy ck hp) o.dst t (ρ len) (ρ cap)
 | .slice t x lo hi none=>efP hp (kB X.P hp t (ρ x) (lo.map ρ) (hi.map ρ))
 | .fieldAddr t x f=>efV hp (yI X.P hp t (ρ x) f)
 | .field t x f=>efV hp (zfF X.P t (ρ x) f)
 | .indexAddr t x i=>efP hp (yH X.P hp t (ρ x) (ρ i))
 | .index t x i=>efP hp (zd3 X.P t (ρ x) (ρ i))
 | .extract x i=>efV hp (qI (ρ x) i)
 | .lookup t x i false=>efP hp (zfn X.P hp t (ρ x) (ρ i))
 | .lookup t x i true=>efP hp (zfm X.P hp t (ρ x) (ρ i))
 | .mapUpdate t m k x=>efS (zgI X.P hp t (ρ m) (ρ k) (ρ x))
 | .call c=>match c.callee with
   | .value x=>zk9 X ck hp o.dst (ρ x) (c.args.toList.map ρ)
   | .builtin b=>zbl X ck hp o.dst b (c.args.toList.map ρ) c.argTypes.toList
   | _=>none
 | _=>none
theorem jU {s:St}{dst:Option Tmp}{r:Option V}{Kn:St→Prop}{p:Prop}{v:V}{hp':Heap}(h:efV s.hp r=some (p,v,hp'))(hK:Kn ⟨s.ck,putTm s.tm dst v,hp'⟩):zaw s dst r Kn:=by
 cases r with
 | none=>cases h
 | some u=>cases h;exact hK
theorem ji {s:St}{dst:Option Tmp}{r:Option (Prop×V)}{Kn:St→Prop}{p:Prop}{v:V}{hp':Heap}(h:efP s.hp r=some (p,v,hp'))(hp:p)(hK:Kn ⟨s.ck,putTm s.tm dst v,hp'⟩):zax s dst r Kn:=by
 cases r with
 | none=>cases h
 | some u=>obtain⟨q,u⟩:=u;cases h;exact⟨hp,hK⟩
theorem qv {s:St}{dst:Option Tmp}{r:Option (Prop×V×Heap)}{Kn:St→Prop}{p:Prop}{v:V}{hp':Heap}(h:r=some (p,v,hp'))(hp:p)(hK:Kn ⟨s.ck,putTm s.tm dst v,hp'⟩):zaU s dst r Kn:=by
 subst h;exact⟨hp,hK⟩
theorem exOp_of {X:Cx}{o:Oper}{s:St}{Kn:St→Prop}{p:Prop}{v:V}{hp':Heap}(h:opE X o s.ck s.hp (ev X s)=some (p,v,hp'))(hp:p)(hK:Kn ⟨s.ck,putTm s.tm o.dst v,hp'⟩):yD X o s Kn:=by
 unfold opE at h
 unfold yD
 have hst:∀ d z,zcC s d z=zcC (vy s.ck s.hp) d z:=fun d z=>rfl
 split at h
 all_goals (rename_i ho;try simp only[ho])
 case _=>cases h;exact hK
 case _=>cases h;exact hK
 case _=>exact jU h hK
 case _ =>
  refine .inr ?_
  split at h
  ·rename_i z hz
   simp only[hz,hst]
   cases hb:zcC (vy s.ck s.hp) o.dst z with
   | none=>simp[hb,efB] at h
   | some q=>obtain⟨u,hp2⟩:=q;simp only[hb,efB,Option.some.injEq,Prod.mk.injEq] at h;obtain⟨-,rfl,rfl⟩:=h;exact hK
  ·cases h
 case _ x =>
  split at h
  ·rename_i hi
   rw[if_pos hi]
   exact ji h hp hK
  ·rename_i hi
   rw[if_neg hi]
   simp only[hst]
   cases hb:zcC (vy s.ck s.hp) o.dst (ev X s x) with
   | none=>simp[hb,efB] at h
   | some q=>obtain⟨u,hp2⟩:=q;simp only[hb,efB,Option.some.injEq,Prod.mk.injEq] at h;obtain⟨-,rfl,rfl⟩:=h;exact hK
 case _=>exact jU h hK
 case _ =>
  split at h
  ·rename_i hi
   rw[if_pos hi]
   exact qv (r:=iceS X.P (vy s.ck s.hp) o.dst _ _ _) h hp hK
  ·rename_i hi
   rw[if_neg hi]
   exact qv (r:=wM X.P (vy s.ck s.hp) o.dst _ _ _) h hp hK
 case _=>exact jU h hK
 case _ t x y =>
  cases hb:sto X.P s.hp t (ev X s x) (ev X s y) with
  | none=>simp[hb,efS] at h
  | some q=>obtain⟨u,hp2⟩:=q;simp only[hb,efS,Option.some.injEq,Prod.mk.injEq] at h;obtain⟨rfl,rfl,rfl⟩:=h;exact⟨hp,hK⟩
 case _=>exact jU h hK
 case _ op0 op t x y t' =>
  cases hb:binV X.P op t (ev X s x) (ev X s y) with
  | none=>rw[hb] at h;cases h
  | some r =>
    have e:binU X.P s.hp op t (ev X s x) (ev X s y)=binV X.P op t (ev X s x) (ev X s y):=by unfold binU;rw[hb]
    rw[e]
    exact ji h hp hK
 case _=>exact ji h hp hK
 case _ src dst x =>
  cases hi:kn X.P s.hp src dst (ev X s x) with
  | some r =>
    rw[hi] at h
    exact qv (r:=some r) h hp hK
  | none =>
    rw[hi] at h
    exact ji h hp hK
 case _=>cases h;exact hK
 case _=>exact qv (r:=yj X.P (vy s.ck s.hp) o.dst _ _ _) h hp hK
 case _=>exact ji h hp hK
 case _=>exact jU h hK
 case _=>exact jU h hK
 case _=>exact ji h hp hK
 case _=>exact ji h hp hK
 case _=>exact jU h hK
 case _=>exact ji h hp hK
 case _=>exact ji h hp hK
 case _ t m k x =>
  cases hb:zgI X.P s.hp t (ev X s m) (ev X s k) (ev X s x) with
  | none=>simp[hb,efS] at h
  | some q=>obtain⟨u,hp2⟩:=q;simp only[hb,efS,Option.some.injEq,Prod.mk.injEq] at h;obtain⟨rfl,rfl,rfl⟩:=h;exact⟨hp,hK⟩
 case _ c =>
  split at h
  ·rename_i x hc
   simp only[hc]
   unfold zk9 at h
   unfold qU
   split at h
   ·rename_i f first cap hx
    simp only[hx]
    split at h
    ·rename_i C hC
     simp only[hC]
     cases h
     exact⟨hp.1,hp.2,hK⟩
    ·cases h
   ·cases h
  ·rename_i b hc
   simp only[hc]
   unfold zbl at h
   unfold wV
   split at h
   ·rename_i x t h1 h2
    obtain⟨y,hy,rfl⟩:=List.map_eq_singleton_iff.1 h1
    simp only[hy,h2]
    exact ji h hp hK
   ·rename_i x y t t2 h1 h2
    obtain⟨x',l1,e1,rfl,e2⟩:=List.map_eq_cons_iff.1 h1
    obtain⟨y',hy,rfl⟩:=List.map_eq_singleton_iff.1 e2
    subst hy
    simp only[e1,h2]
    split at h
    ·cases h
    rename_i hbs
    rw[if_neg hbs]
    split at h
    ·rename_i hi
     rw[if_pos hi]
     exact qv (r:=appendN X.P (vy s.ck s.hp) o.dst _ _ _ _) h hp hK
    ·rename_i hi
     rw[if_neg hi]
     split at h
     ·rename_i hj
      rw[if_pos hj]
      exact qv (r:=appendZ X.P (vy s.ck s.hp) o.dst _ _ _ _) h hp hK
     ·rename_i hj
      rw[if_neg hj]
      exact qv (r:=vC X.P (vy s.ck s.hp) o.dst _ _ _ _) h hp hK
   ·rename_i x y t t2 h1 h2
    obtain⟨x',l1,e1,rfl,e2⟩:=List.map_eq_cons_iff.1 h1
    obtain⟨y',hy,rfl⟩:=List.map_eq_singleton_iff.1 e2
    subst hy
    simp only[e1,h2]
    split at h
    ·rename_i hbs
     rw[if_pos hbs]
     exact qv (r:=copyB X.P (vy s.ck s.hp) _ _ _) h hp hK
    ·cases h
   ·exact jU h hK
   ·exact jU h hK
   ·cases h
  ·cases h
 case _=>cases h
def vQ:V→List Loc
 | .ptr l _=>[l]
 | .rawp L=>[(0,L)]
 | .mapp L=>[(0,L)]
 | .eptr l _ _ _ _=>[l]
 | .msl l _ _=>[l]
 | .bsl l _ _=>[l]
 | .psl l _ _ _=>[l]
 | _=>[]
def agV (hp1 hp2:Heap)(v:V):Prop:=∀ l∈vQ v,hp1 l=hp2 l
theorem zaD {hp1 hp2:Heap}{v:V}(h:agV hp1 hp2 v):ve hp1 v=ve hp2 v:=by
 cases v <;> simp[agV,vQ] at h <;> simp[ve,h]
theorem onV_ag {hp1 hp2:Heap}{v:V}(h:agV hp1 hp2 v)(n:Nat):onV hp1 v n=onV hp2 v n:=by
 unfold onV;rw[zaD h]
theorem ld_ag {P:Program}{hp1 hp2:Heap}{t:TypeId}{v:V}(h:agV hp1 hp2 v):ld P hp1 t v=ld P hp2 t v:=by
 unfold ld;rw[zaD h]
theorem zfg {hp1 hp2:Heap}{v:V}(h:agV hp1 hp2 v):y7 hp1 v=y7 hp2 v:=by
 unfold y7
 split
 ·rfl
 ·rw[zaD h]
theorem zea {P:Program}{hp1 hp2:Heap}{t:TypeId}{v:V}{f:Nat}(h:agV hp1 hp2 v):yI P hp1 t v f=yI P hp2 t v f:=by
 unfold yI;simp only[onV_ag h]
theorem ze5 {P:Program}{hp1 hp2:Heap}{t:TypeId}{v i:V}(h:agV hp1 hp2 v):yH P hp1 t v i=yH P hp2 t v i:=by
 unfold yH
 simp only[onV_ag h]
 cases v <;> first | rfl | (simp[agV,vQ] at h;simp[h])
theorem lenV_ag {hp1 hp2:Heap}{v:V}(h:agV hp1 hp2 v):zfq hp1 v=zfq hp2 v:=by
 cases v <;> simp[agV,vQ] at h <;> simp[zfq,h]
theorem slV_ag {hp1 hp2:Heap}{v:V}(h:agV hp1 hp2 v)(a b:Int):slV hp1 v a b=slV hp2 v a b:=by
 cases v <;> simp[agV,vQ] at h <;> simp[slV,h]
theorem zky {P:Program}{hp1 hp2:Heap}{t:TypeId}{v:V}{lo hi:Option V}(h:agV hp1 hp2 v):kB P hp1 t v lo hi=kB P hp2 t v lo hi:=by
 have e:=slV_ag h
 unfold kB
 rw[lenV_ag h]
 simp only[e]
 cases hu:P.underlying t with
 | none=>rfl
 | some d =>
   cases d with
   | string=>cases v <;> rfl
   | slice el =>
     cases v with
     | msl l off len =>
       have h:=h l (List.mem_singleton.2 rfl)
       simp only[h]
     | bsl l off len =>
       have h:=h l (List.mem_singleton.2 rfl)
       simp only[h]
     | _=>rfl
   | pointer a=>cases v <;> rfl
   | _=>rfl
theorem lenTV_ag {P:Program}{hp1 hp2:Heap}{t:TypeId}{v:V}(h:agV hp1 hp2 v):zdY P hp1 t v=zdY P hp2 t v:=by
 unfold zdY
 cases hu:P.underlying t with
 | none=>rfl
 | some d =>
   cases d with
   | slice el =>
     cases v with
     | msl l off len =>
       have h:=h l (List.mem_singleton.2 rfl)
       simp only[h]
     | bsl l off len =>
       have h:=h l (List.mem_singleton.2 rfl)
       simp only[h]
     | _=>rfl
   | _=>cases v <;> rfl
theorem zbA {hp1 hp2:Heap}{v:V}(h:agV hp1 hp2 v):zgf hp1 v=zgf hp2 v:=by
 cases v <;> simp[agV,vQ] at h <;> simp[zgf,h]
theorem lookV_ag {P:Program}{hp1 hp2:Heap}{t:TypeId}{v i:V}(h:agV hp1 hp2 v):zfn P hp1 t v i=zfn P hp2 t v i:=by
 unfold zfn
 split
 ·rfl
 ·split
  ·rename_i kt et L s ht _
   rw[h (0,L) (by simp[vQ])]
  ·rfl
theorem lookW_ag {P:Program}{hp1 hp2:Heap}{t:TypeId}{v i:V}(h:agV hp1 hp2 v):zfm P hp1 t v i=zfm P hp2 t v i:=by
 have e:zgM hp1 v=zgM hp2 v:=by
  unfold zgM
  split
  ·rfl
  ·rename_i L
   rw[h (0,L) (by simp[vQ])]
  ·rfl
 unfold zfm
 rw[e]
def zH (F:Heap→Option Eff)(wl:Option Loc)(rd:Heap→Heap→Prop):Prop :=
 ∀ hp p v hp',F hp=some (p,v,hp')→(∀ l,wl≠some l→hp' l=hp l) ∧
  ∀ hp2,rd hp hp2→(∀ l,wl=some l→hp2 l=hp l)→∃ hp2',F hp2=some (p,v,hp2')∧∀ l,wl=some l→hp2' l=hp' l
theorem zH.efV {g:Heap→Option V}{rd:Heap→Heap→Prop}(h:∀ a b,rd a b→g a=g b):zH (fun hp=>efV hp (g hp)) none rd:=by
 intro hp p v hp' e
 simp only at e
 cases q:g hp with
 | none=>rw[q] at e;cases e
 | some u =>
   rw[q] at e;cases e
   exact⟨fun _ _=>rfl,fun hp2 hr _=>⟨hp2,by simp only[← h _ _ hr,q,Fly.efV],fun _ hl=>by cases hl⟩⟩
theorem zH.efP {g:Heap→Option (Prop×V)}{rd:Heap→Heap→Prop}(h:∀ a b,rd a b→g a=g b):zH (fun hp=>efP hp (g hp)) none rd:=by
 intro hp p v hp' e
 simp only at e
 cases q:g hp with
 | none=>rw[q] at e;cases e
 | some u =>
   obtain⟨q1,q2⟩:=u
   rw[q] at e;cases e
   exact⟨fun _ _=>rfl,fun hp2 hr _=>⟨hp2,by simp only[← h _ _ hr,q,Fly.efP],fun _ hl=>by cases hl⟩⟩
theorem zH.box {ck:Nat}{dst:Option Tmp}{z:V}{rd:Heap→Heap→Prop}:zH (fun hp=>efB (zcC (vy ck hp) dst z)) (some (ck,dst.getD 0)) rd:=by
 intro hp p v hp' e
 simp only[zcC,vy] at e
 split at e <;> try (cases e;done)
 rename_i d cs h2
 cases q:hp (ck,d) with
 | some x=>simp[q,efB] at e
 | none =>
   simp only[q,efB,Option.some.injEq,Prod.mk.injEq] at e
   obtain⟨rfl,rfl,rfl⟩:=e
   refine⟨fun l hl=>zc fun e=>hl (by rw[e];rfl),fun hp2 _ hw=>⟨updH hp2 (ck,d) (.cells cs),?_,fun l hl=>?_⟩⟩
   ·have:=hw (ck,d) rfl
    simp only[zcC,vy,h2,this,q,efB]
   ·cases hl;simp[updH]
theorem zH.buildSlice {P:Program}{ck:Nat}{dst:Option Tmp}{t:TypeId}{len:Nat}{parts:List (Nat×V)}{rd:Heap→Heap→Prop}:zH (fun hp=>wM P (vy ck hp) dst t len parts) (some (ck,dst.getD 0)) rd:=by
 intro hp p v hp' e
 simp only[wM,vy] at e
 split at e
 ·rename_i el d h1
  split at e
  ·rename_i z hz
   split at e
   ·rename_i hc
    split at e
    ·rename_i cells h2 h3
     simp only[Option.some.injEq,Prod.mk.injEq] at e
     obtain⟨rfl,rfl,rfl⟩:=e
     refine⟨fun l hl=>zc fun e=>hl (by rw[e];rfl),fun hp2 _ hw=>⟨updH hp2 (ck,d) (.arr len (tsz P el) (wa cells (tsz P el))),?_,fun l hl=>?_⟩⟩
     ·have:=hw (ck,d) rfl
      simp only[wM,vy,h1,hz,if_pos hc,this,h2,h3]
     ·cases hl;simp[updH]
    ·cases e
   ·cases e
  ·cases e
 ·cases e
theorem zH.iceS {P:Program}{ck:Nat}{dst:Option Tmp}{t:TypeId}{len:Nat}{parts:List (Nat×V)}{rd:Heap→Heap→Prop}:zH (fun hp=>Fly.iceS P (vy ck hp) dst t len parts) (some (ck,dst.getD 0)) rd:=by
 intro hp p v hp' e
 simp only[Fly.iceS,yt,vy] at e
 split at e
 ·rename_i d q w hp1 e1
  split at e1
  ·rename_i el d' h1 hd
   cases hd
   split at e1
   ·rename_i z hz
    split at e1
    ·rename_i hc
     split at e1
     ·rename_i cells h2 h3
      simp only[Option.some.injEq,Prod.mk.injEq] at e1
      obtain⟨rfl,rfl,rfl⟩:=e1
      split at e <;> try (cases e;done)
      rename_i n sz get hh
      have hh2:some (AObj.arr len (tsz P el) (wa cells (tsz P el)))=some (AObj.arr n sz get):=by rw[← hh];exact(zd _ _ _).symm
      cases hh2
      simp only[Option.some.injEq,Prod.mk.injEq] at e
      obtain⟨rfl,rfl,rfl⟩:=e
      refine⟨fun l hl=>?_,fun hp2 _ hw=>⟨updH (updH hp2 (ck,d) (.arr len (tsz P el) (wa cells (tsz P el)))) (ck,d) .dead,?_,fun l hl=>?_⟩⟩
      ·have hne:l≠(ck,d):=fun e=>hl (by rw[e];rfl)
       rw[zc hne,zc hne]
      ·have:=hw (ck,d) rfl
       simp only[Fly.iceS,yt,vy,h1,hz,if_pos hc,this,h2,h3,zd]
      ·cases hl;simp[updH]
     ·cases e1
    ·cases e1
   ·cases e1
  ·cases e1
 ·cases e
theorem zH.makeSlice {P:Program}{ck:Nat}{dst:Option Tmp}{t:TypeId}{len cap:V}{rd:Heap→Heap→Prop}:zH (fun hp=>yj P (vy ck hp) dst t len cap) (some (ck,dst.getD 0)) rd:=by
 intro hp p v hp' e
 simp only[yj,vy] at e
 split at e
 ·rename_i el d n c h1
  split at e
  ·rename_i z hz h3
   split at e
   ·rename_i hc
    simp only[Option.some.injEq,Prod.mk.injEq] at e
    obtain⟨rfl,rfl,rfl⟩:=e
    refine⟨fun l hl=>zc fun e=>hl (by rw[e];rfl),fun hp2 _ hw=>⟨updH hp2 (ck,d) (.arr n.toNat (tsz P el) (fun _=>z)),?_,fun l hl=>?_⟩⟩
    ·have:=hw (ck,d) rfl
     simp only[yj,vy,h1,hz,if_pos hc,this,h3]
    ·cases hl;simp[updH]
   ·cases e
  ·cases e
 ·cases e
theorem zH.mup {P:Program}{t:TypeId}{m k x:V}:zH (fun hp=>efS (zgI P hp t m k x)) (vQ m).head? (fun h1 h2=>agV h1 h2 m):=by
 intro hp p u hp' e
 simp only[zgI] at e
 split at e
 ·rename_i kt et L s xv ht hxv
  split at e
  ·rename_i es c hkt hl
   split at e
   ·rename_i hf
    simp only[efS,Option.some.injEq,Prod.mk.injEq] at e
    obtain⟨rfl,rfl,rfl⟩:=e
    refine⟨fun l' hl'=>zc fun e=>hl' (by rw[e];rfl),fun hp2 hr hw=>⟨updH hp2 (0,L) (.raw (.map (es.push ⟨.string ⟨s.toArray⟩,xv,c⟩) (c+1))),?_,fun l' hl'=>?_⟩⟩
    ·have:=hw (0,L) rfl
     simp only[zgI,ht,hxv,hkt,this,hl,hf,efS]
    ·cases hl';simp[updH]
   ·cases e
  ·cases e
 ·cases e
theorem zH.store {P:Program}{t:TypeId}{a v:V}:zH (fun hp=>efS (sto P hp t a v)) (vQ a).head? (fun h1 h2=>agV h1 h2 a):=by
 intro hp p u hp' e
 simp only[sto] at e
 split at e
 ·cases e
 ·rename_i new hn
  split at e
  ·rename_i hc
   cases a with
   | ptr l off =>
     simp only at e
     cases ho:hp l with
     | none=>simp[ho,efS] at e
     | some ob =>
       cases ob with
       | arr m sz get=>simp[ho,efS] at e
       | dead=>simp[ho,efS] at e
       | raw r=>simp[ho,efS] at e
       | buf _ _ _=>simp[ho,efS] at e
       | cells cs =>
         simp only[ho] at e
         split at e
         ·rename_i hle
          simp only[efS,Option.some.injEq,Prod.mk.injEq] at e
          obtain⟨rfl,rfl,rfl⟩:=e
          refine⟨fun l' hl=>zc fun e=>hl (by rw[e];rfl),fun hp2 hr hw=>⟨updH hp2 l (.cells (qa cs off new)),?_,fun l' hl=>?_⟩⟩
          ·have:=hw l rfl
           simp only[sto,hn,if_pos hc,this,ho,if_pos hle,efS]
          ·cases hl;simp[updH]
         ·cases e
   | eptr l m sz i off =>
     simp only at e
     cases ho:hp l with
     | none=>simp[ho,efS] at e
     | some ob =>
       cases ob with
       | cells cs=>simp[ho,efS] at e
       | dead=>simp[ho,efS] at e
       | raw r=>simp[ho,efS] at e
       | buf _ _ _=>simp[ho,efS] at e
       | arr m' sz' get =>
         simp only[ho] at e
         split at e
         ·rename_i hle
          simp only[efS,Option.some.injEq,Prod.mk.injEq] at e
          obtain⟨rfl,rfl,rfl⟩:=e
          refine⟨fun l' hl=>zc fun e=>hl (by rw[e];rfl),fun hp2 hr hw=>⟨updH hp2 l (.arr m' sz' (fun i'=>if i'=i then qa (get i) off new else get i')),?_,fun l' hl=>?_⟩⟩
          ·have:=hw l rfl
           simp only[sto,hn,if_pos hc,this,ho,if_pos hle,efS]
          ·cases hl;simp[updH]
         ·cases e
   | _=>cases e
  ·cases e
def jd (ck:Nat)(dst:Option Tmp)(x:V):Loc:=((vQ x).head?).getD (ck,dst.getD 0)
theorem zH.appendR {P:Program}{ck:Nat}{dst:Option Tmp}{t t2:TypeId}{x y:V}:zH (fun hp=>appendR P (vy ck hp) dst t t2 x y) (some (jd ck dst x)) (fun h1 h2=>agV h1 h2 y):=by
 intro hp p u hp' e
 simp only[Fly.appendR,vy] at e
 split at e
 ·rename_i el d2 p1 m src osz h1 h2 h3
  split at e
  ·rename_i hc
   split at e
   ·rename_i d
    cases q:hp (ck,d) with
    | some x=>simp[q] at e
    | none =>
      simp only[q,Option.some.injEq,Prod.mk.injEq] at e
      obtain⟨rfl,rfl,rfl⟩:=e
      refine⟨fun l hl=>zc fun e=>hl (by rw[e];rfl),fun hp2 hr hw=>⟨updH hp2 (ck,d) (.arr m (tsz P el) src),?_,fun l hl=>?_⟩⟩
      ·have:=hw (ck,d) rfl
       simp only[Fly.appendR,vy,h1,h2,← zbA hr,h3,if_pos hc,this,q]
      ·cases hl;simp[updH,jd,vQ]
   ·rename_i l off n
    cases q:hp l with
    | none=>simp[q] at e
    | some ob =>
      cases ob with
      | cells cs=>simp[q] at e
      | dead=>simp[q] at e
      | raw r=>simp[q] at e
      | buf _ _ _=>simp[q] at e
      | arr n' sz get =>
        simp only[q,Option.some.injEq,Prod.mk.injEq] at e
        obtain⟨rfl,rfl,rfl⟩:=e
        refine⟨fun l hl=>zc fun e=>hl (by rw[e];rfl),fun hp2 hr hw=>⟨updH hp2 l (.arr (n+m) (tsz P el) (fun i=>if i < n then get i else src (i - n))),?_,fun l hl=>?_⟩⟩
        ·have:=hw l rfl
         simp only[Fly.appendR,vy,h1,h2,← zbA hr,h3,if_pos hc,this,q]
        ·cases hl;simp[updH,jd,vQ]
   ·cases e
  ·cases e
 ·cases e
theorem zH.appendN {P:Program}{ck:Nat}{dst:Option Tmp}{t t2:TypeId}{x y:V}:zH (fun hp=>appendN P (vy ck hp) dst t t2 x y) (some (jd ck dst x)) (fun h1 h2=>agV h1 h2 y):=by
 intro hp p u hp' e
 simp only[Fly.appendN,vy] at e
 split at e
 ·rename_i el d2 p1 m src osz h1 h2 h3
  split at e
  ·rename_i hc
   split at e
   ·rename_i d
    cases q:hp (ck,d) with
    | some x=>simp[q] at e
    | none =>
      simp only[q,Option.some.injEq,Prod.mk.injEq] at e
      obtain⟨rfl,rfl,rfl⟩:=e
      refine⟨fun l hl=>zc fun e=>hl (by rw[e];rfl),fun hp2 hr hw=>⟨updH hp2 (ck,d) (.arr m (tsz P el) src),?_,fun l hl=>?_⟩⟩
      ·have:=hw (ck,d) rfl
       simp only[Fly.appendN,vy,h1,h2,← zbA hr,h3,if_pos hc,this,q]
      ·cases hl;simp[updH,jd,vQ]
   ·rename_i l off n
    cases q:hp l with
    | none=>simp[q] at e
    | some ob =>
      cases ob with
      | cells cs=>simp[q] at e
      | dead=>simp[q] at e
      | raw r=>simp[q] at e
      | buf _ _ _=>simp[q] at e
      | arr n' sz get =>
        simp only[q,Option.some.injEq,Prod.mk.injEq] at e
        obtain⟨rfl,rfl,rfl⟩:=e
        refine⟨fun l hl=>zc fun e=>hl (by rw[e];rfl),fun hp2 hr hw=>⟨updH hp2 l (.arr (n+m) (tsz P el) (fun i=>if i < n then get i else src (i - n))),?_,fun l hl=>?_⟩⟩
        ·have:=hw l rfl
         simp only[Fly.appendN,vy,h1,h2,← zbA hr,h3,if_pos hc,this,q]
        ·cases hl;simp[updH,jd,vQ]
   ·cases e
  ·cases e
 ·cases e
theorem zcr {P:Program}{ck:Nat}{hp:Heap}{dst:Option Tmp}{t t2:TypeId}{l0:Loc}{o0 n0:Nat}{y:V}{p:Prop}{l:Loc}{off n:Nat}{hp':Heap}
 (h:Fly.appendR P (vy ck hp) dst t t2 (.msl l0 o0 n0) y=some (p,.msl l off n,hp')):l=l0:=by
 simp only[Fly.appendR,vy] at h
 split at h
 ·split at h
  ·cases q:hp l0 with
   | none=>simp[q] at h
   | some ob =>
     cases ob with
     | cells cs=>simp[q] at h
     | dead=>simp[q] at h
     | raw r=>simp[q] at h
     | buf _ _ _=>simp[q] at h
     | arr n' sz get =>
       simp only[q,Option.some.injEq,Prod.mk.injEq,V.msl.injEq] at h
       exact h.2.1.1.symm
  ·cases h
 ·cases h
theorem zH.appendZ {P:Program}{ck:Nat}{dst:Option Tmp}{t t2:TypeId}{x y:V}:zH (fun hp=>appendZ P (vy ck hp) dst t t2 x y) (some (jd ck dst x)) (fun h1 h2=>agV h1 h2 y):=by
 have main:∀ (l0:Loc) (o0 n0:Nat),x=.msl l0 o0 n0→zH (fun hp=>match Fly.appendR P (vy ck hp) dst t t2 x y with
  | some (p,.msl l 0 n,hp')=>match hp' l with
    | some (.arr n' sz get)=>if n=n' then some (p∧∀ i,i < n'→∀ v∈get i,Pu v,.sl n sz get,updH hp' l .dead) else none
    | _=>none
  | _=>none) (some (jd ck dst x)) (fun h1 h2=>agV h1 h2 y):=by
  intro l0 o0 n0 hx hp p u hp' e
  simp only at e
  split at e
  ·rename_i p1 l n hp1 ha
   have hl:l=l0:=zcr (hx ▸ ha)
   subst hl
   have hap:jd ck dst x=l:=by rw[hx];rfl
   split at e
   ·rename_i n' sz get hg
    split at e
    ·rename_i hn
     simp only[Option.some.injEq,Prod.mk.injEq] at e
     obtain⟨rfl,rfl,rfl⟩:=e
     obtain⟨h1,h2⟩:=zH.appendR (P:=P) (ck:=ck) (dst:=dst) (t:=t) (t2:=t2) (x:=x) (y:=y) _ _ _ _ ha
     refine⟨fun l' hl'=>?_,fun hp2 hr hw=>?_⟩
     ·rw[hap] at hl'
      rw[zc fun e=>hl' (by rw[e])]
      exact h1 l' (by rw[hap];exact hl')
     ·obtain⟨hp2',g1,g2⟩:=h2 hp2 hr hw
      have:=g2 l (by rw[hap])
      refine⟨updH hp2' l .dead,?_,fun l' hl'=>?_⟩
      ·simp only[g1,this,hg,if_pos hn]
      ·rw[hap] at hl'
       cases hl'
       simp[updH]
    ·cases e
   ·cases e
  ·cases e
 unfold Fly.appendZ
 split
 ·exact main _ _ _ rfl
 ·intro hp p u hp' e;cases e
theorem zH.append {P:Program}{ck:Nat}{dst:Option Tmp}{t t2:TypeId}{x y:V}:zH (fun hp=>vC P (vy ck hp) dst t t2 x y) (some (jd ck dst x)) (fun h1 h2=>agV h1 h2 y):=by
 have main:∀ (l0:Loc) (o0 n0:Nat),x=.msl l0 o0 n0→zH (fun hp=>match Fly.appendR P (vy ck hp) dst t t2 x y with
  | some (p,.msl l 0 n,hp')=>match hp' l with
    | some (.arr n' sz get)=>if n=n' then some (p,.sl n sz get,updH hp' l .dead) else none
    | _=>none
  | _=>none) (some (jd ck dst x)) (fun h1 h2=>agV h1 h2 y):=by
  intro l0 o0 n0 hx hp p u hp' e
  simp only at e
  split at e
  ·rename_i p1 l n hp1 ha
   have hl:l=l0:=zcr (hx ▸ ha)
   subst hl
   have hap:jd ck dst x=l:=by rw[hx];rfl
   split at e
   ·rename_i n' sz get hg
    split at e
    ·rename_i hn
     simp only[Option.some.injEq,Prod.mk.injEq] at e
     obtain⟨rfl,rfl,rfl⟩:=e
     obtain⟨h1,h2⟩:=zH.appendR (P:=P) (ck:=ck) (dst:=dst) (t:=t) (t2:=t2) (x:=x) (y:=y) _ _ _ _ ha
     refine⟨fun l' hl'=>?_,fun hp2 hr hw=>?_⟩
     ·rw[hap] at hl'
      rw[zc fun e=>hl' (by rw[e])]
      exact h1 l' (by rw[hap];exact hl')
     ·obtain⟨hp2',g1,g2⟩:=h2 hp2 hr hw
      have:=g2 l (by rw[hap])
      refine⟨updH hp2' l .dead,?_,fun l' hl'=>?_⟩
      ·simp only[g1,this,hg,if_pos hn]
      ·rw[hap] at hl'
       cases hl'
       simp[updH]
    ·cases e
   ·cases e
  ·cases e
 unfold vC
 split
 ·exact main _ _ _ rfl
 ·exact main _ _ _ rfl
 ·exact zH.appendN
theorem zH.copyB {P:Program}{ck:Nat}{t:TypeId}{x y:V}:zH (fun hp=>copyB P (vy ck hp) t x y) (vQ x).head? (fun h1 h2=>agV h1 h2 y):=by
 intro hp p u hp' e
 simp only[Fly.copyB,vy] at e
 split at e
 ·rename_i el p1 m src osz h1 h3
  split at e
  ·rename_i hc
   split at e
   ·rename_i l off n
    cases q:hp l with
    | none=>simp[q] at e
    | some ob =>
      cases ob with
      | cells cs=>simp[q] at e
      | dead=>simp[q] at e
      | raw r=>simp[q] at e
      | arr _ _ _=>simp[q] at e
      | buf c sz get =>
        simp only[q,Option.some.injEq,Prod.mk.injEq] at e
        obtain⟨rfl,rfl,rfl⟩:=e
        refine⟨fun l hl=>zc fun e=>hl (by rw[e];rfl),fun hp2 hr hw=>⟨updH hp2 l (.buf c (tsz P el) (qW get off m src)),?_,fun l hl=>?_⟩⟩
        ·have:=hw l rfl
         simp only[Fly.copyB,vy,h1,← zbA hr,h3,if_pos hc,this,q]
        ·cases hl;simp[updH]
   ·cases e
  ·cases e
 ·cases e
inductive Rd where
 | locs (l:List Loc)
 | cond (p:Prop)
def Rd.ag:Rd→Heap→Heap→Prop
 | .locs ls,a,b=>∀ l∈ls,a l=b l
 | .cond p,a,b=>p∨a=b
def zem (x:V)(args:List V):List V :=
 match x with
 | .fn _ first cap=>first++args++cap
 | _=>args
def rdOf (o:Oper)(ρ:Operand→V):Rd :=
 match o.op with
 | .load _ x | .store _ x _ | .nilCheck x | .fieldAddr _ x _ | .indexAddr _ x _ | .slice _ x _ _ _ | .lookup _ x _ _ | .mapUpdate _ x _ _=>.locs (vQ (ρ x))
 | .call c=>match c.callee with
   | .value x=>.cond (∀ a∈zem (ρ x) (c.args.toList.map ρ),Pu a)
   | .builtin .len | .builtin .append | .builtin .copy=>.locs ((c.args.toList.map ρ).flatMap vQ)
   | _=>.locs []
 | _=>.locs []
def convL:V→Option Loc
 | .msl l _ _=>some l
 | _=>none
def wlOf (o:Oper)(ck:Nat)(ρ:Operand→V):Option Loc :=
 match o.op with
 | .alloc _ | .box _ _ | .buildSlice _ _ _ | .makeSlice _ _ _=>some (ck,o.dst.getD 0)
 | .store _ x _=>(vQ (ρ x)).head?
 | .mapUpdate _ x _ _=>(vQ (ρ x)).head?
 | .convert s t x=>if s=t then convL (ρ x) else none
 | .call c=>match c.callee with
   | .value _=>some (ck,o.dst.getD 0)
   | .builtin .append=>match c.args.toList.map ρ with
     | x::_=>some (jd ck o.dst x)
     | []=>none
   | .builtin .copy=>match c.args.toList.map ρ with
     | x::_=>(vQ x).head?
     | []=>none
   | _=>none
 | _=>none
theorem zH.conv {P:Program}{src dst:TypeId}{u:V}{rd:Heap→Heap→Prop}:zH (fun hp=>match kn P hp src dst u with | some r=>some r | none=>Fly.efP hp (zcx P src dst u)) (if src=dst then convL u else Option.none) rd:=by
 intro hp p v hp' e
 simp only at e
 cases hi:kn P hp src dst u with
 | some r =>
   rw[hi] at e
   cases e
   obtain⟨l,n,rfl,hg,rfl⟩:=zch hi
   obtain⟨_,_,_,_,hsd,_⟩:=zci hg
   rw[if_pos hsd]
   refine⟨fun l' h=>zc (fun e=>h (by rw[e];rfl)),fun hp2 _ hw=>⟨updH hp2 l .dead,?_,fun l' h'=>?_⟩⟩
   ·have q:hp2 l=hp l:=hw l rfl
    simp only[kn,q,hg]
   ·cases h'
    rw[zd,zd]
 | none =>
   rw[hi] at e
   have hn:∀ hp2:Heap,(∀ l,(if src=dst then convL u else Option.none)=some l→hp2 l=hp l)→kn P hp2 src dst u=Option.none:=fun hp2 hw=>by
    cases h2:kn P hp2 src dst u with
    | none=>rfl
    | some r =>
      obtain⟨q,w,hq⟩:=r
      obtain⟨l,n,rfl,hg,_⟩:=zch h2
      obtain⟨_,_,_,_,hsd,_⟩:=zci hg
      rw[if_pos hsd] at hw
      rw[hw l rfl] at hg
      simp only[kn,hg] at hi
      cases hi
   cases hq:zcx P src dst u with
   | none=>rw[hq] at e;cases e
   | some r =>
     rw[hq] at e
     cases e
     exact⟨fun _ _=>rfl,fun hp2 _ hw=>⟨hp2,by simp only[hn hp2 hw,hq,Fly.efP],fun l h=>hw l h⟩⟩
theorem zH.none (wl:Option Loc)(rd:Heap→Heap→Prop):zH (fun _=>none) wl rd:=fun _ _ _ _ h=>by cases h
theorem zH.same {p:Prop}{v:V}(rd:Heap→Heap→Prop):zH (fun hp=>some (p,v,hp)) Option.none rd:=by
 intro hp q u hp' e
 cases e
 exact⟨fun _ _=>rfl,fun hp2 _ _=>⟨hp2,rfl,fun _ h=>by cases h⟩⟩
theorem zH.mono {F:Heap→Option Eff}{wl:Option Loc}{rd rd':Heap→Heap→Prop}(h:zH F wl rd)(hr:∀ a b,rd' a b→rd a b):zH F wl rd' :=
 fun hp p v hp' e=>⟨(h hp p v hp' e).1,fun hp2 h1 h2=>(h hp p v hp' e).2 hp2 (hr _ _ h1) h2⟩
theorem v7 {n:Nat}{hp:Heap}{v:V}(h:Pu v):frz (n+1) hp v=v:=by simp only[frz,if_pos h]
theorem zH.call {X:Cx}{ck:Nat}{dst:Option Tmp}{x:V}{args:List V}:zH (fun hp=>zk9 X ck hp dst x args) (some (ck,dst.getD 0)) (Rd.ag (.cond (∀ a∈zem x args,Pu a))):=by
 intro hp p v hp' e
 simp only[zk9] at e
 split at e
 ·rename_i f first cap
  split at e
  ·rename_i C hC
   simp only[Option.some.injEq,Prod.mk.injEq] at e
   obtain⟨rfl,rfl,rfl⟩:=e
   refine⟨fun l hl=>?_,fun hp2 hr hw=>?_⟩
   ·generalize (C (ck,dst.getD 0) (List.map (frz 5 hp) (first++args++cap))).obj=ob
    cases ob with
    | none=>rfl
    | some o=>exact zc fun e=>hl (by rw[e])
   ·have hm:(first++args++cap).map (frz 5 hp2)=(first++args++cap).map (frz 5 hp):=by
     rcases hr with hr | hr
     ·refine List.map_congr_left fun a ha=>?_
      rw[v7 (hr a ha),v7 (hr a ha)]
     ·rw[hr]
    have hw':=hw _ rfl
    refine⟨zc4 hp2 (ck,dst.getD 0) (C (ck,dst.getD 0) ((first++args++cap).map (frz 5 hp))).obj,?_,fun l hl=>?_⟩
    ·simp only[zk9,hC,kp,vy,hm,hw']
    ·cases hl
     generalize (C (ck,dst.getD 0) (List.map (frz 5 hp) (first++args++cap))).obj=ob
     cases ob with
     | none=>exact hw'
     | some o=>simp[zc4,updH]
  ·cases e
 ·cases e
theorem zan (X:Cx)(o:Oper)(ck:Nat)(ρ:Operand→V):zH (fun hp=>opE X o ck hp ρ) (wlOf o ck ρ) (Rd.ag (rdOf o ρ)):=by
 unfold opE wlOf rdOf
 have ag1:∀ (v:V) (a b:Heap),Rd.ag (.locs (vQ v)) a b→agV a b v:=fun v a b h=>h
 cases ho:o.op <;> try exact zH.none _ _
 case move=>exact zH.same _
 case assign=>exact zH.same _
 case pick=>exact zH.efV fun a b _=>rfl
 case alloc t =>
  simp only
  cases tzero X.P t with
  | none=>exact zH.none _ _
  | some z=>exact zH.box
 case box =>
  simp only
  split
  ·intro hp q u hp' e
   refine⟨fun l hl=>?_,fun hp2 hr hw=>?_⟩
   ·cases hi:iceV (ρ _) with
    | none=>rw[hi] at e;cases e
    | some r=>rw[hi] at e;cases e;rfl
   ·cases hi:iceV (ρ _) with
    | none=>rw[hi] at e;cases e
    | some r=>rw[hi] at e;cases e;exact⟨hp2,rfl,fun l hl=>hw l hl⟩
  ·exact zH.box
 case build=>exact zH.efV fun a b _=>rfl
 case buildSlice =>
  simp only
  split
  ·exact zH.iceS
  ·exact zH.buildSlice
 case load=>exact zH.efV fun a b h=>ld_ag (ag1 _ _ _ h)
 case store=>exact zH.store
 case mapUpdate=>exact zH.mup
 case nilCheck=>exact zH.efV fun a b h=>zfg (ag1 _ _ _ h)
 case binOp=>exact zH.efP fun a b _=>rfl
 case unOp=>exact zH.efP fun a b _=>rfl
 case convert=>exact zH.conv
 case makeFunc=>exact zH.same _
 case makeSlice=>exact zH.makeSlice
 case slice t x lo hi m =>
  cases m with
  | none=>exact zH.efP fun a b h=>zky (ag1 _ _ _ h)
  | some m=>exact zH.none _ _
 case fieldAddr=>exact zH.efV fun a b h=>zea (ag1 _ _ _ h)
 case field=>exact zH.efV fun a b _=>rfl
 case indexAddr=>exact zH.efP fun a b h=>ze5 (ag1 _ _ _ h)
 case index=>exact zH.efP fun a b _=>rfl
 case extract=>exact zH.efV fun a b _=>rfl
 case lookup t x i ok =>
  cases ok with
  | false=>exact zH.efP fun a b h=>lookV_ag (ag1 _ _ _ h)
  | true=>exact zH.efP fun a b h=>lookW_ag (ag1 _ _ _ h)
 case call c =>
  simp only
  cases hc:c.callee with
  | value x=>exact zH.call
  | builtin b =>
    simp only
    generalize hl:c.args.toList.map ρ=l
    generalize ht:c.argTypes.toList=ts
    unfold zbl
    split
    ·exact zH.efP fun a b h=>lenTV_ag fun l hl=>h l (by simpa using hl)
    ·split
     ·exact zH.none _ _
     split
     ·exact zH.appendN.mono fun a b h l hl=>h l (by simp[hl])
     ·split
      ·exact zH.appendZ.mono fun a b h l hl=>h l (by simp[hl])
      ·exact zH.append.mono fun a b h l hl=>h l (by simp[hl])
    ·split
     ·exact zH.copyB.mono fun a b h l hl=>h l (by simp[hl])
     ·exact zH.none _ _
    ·rename_i l _
     cases l <;> exact zH.efV fun a b _=>rfl
    ·rename_i l _
     cases l <;> exact zH.efV fun a b _=>rfl
    ·exact zH.none _ _
  | _=>exact zH.none _ _
theorem opE_rho {X:Cx}{o:Oper}{ck:Nat}{hp:Heap}{ρ ρ':Operand→V}(h:∀ x∈o.op.operands,ρ x=ρ' x):opE X o ck hp ρ=opE X o ck hp ρ':=by
 unfold opE
 cases ho:o.op <;> try rfl
 all_goals rw[ho] at h
 case call c =>
  have hargs:c.args.toList.map ρ=c.args.toList.map ρ':=List.map_congr_left fun x hx=>h x (by simp only[Op.operands,Call.operands];cases c.callee <;> simp <;> first | exact Array.mem_toList_iff.1 hx | exact .inl (Array.mem_toList_iff.1 hx) | exact .inr (Array.mem_toList_iff.1 hx))
  simp only[hargs]
  cases hc:c.callee with
  | value x =>
    have:=h x (by simp[Op.operands,Call.operands,hc])
    simp only[hc,this]
  | _=>simp only[hc]
 case build t parts =>
  have:(parts.toList.map fun x=>(x.1,ρ x.2))=parts.toList.map fun x=>(x.1,ρ' x.2):=List.map_congr_left fun x hx=>by rw[h x.2 (by simp only[Op.operands,List.mem_toArray,List.mem_map];exact⟨x,hx,rfl⟩)]
  simp only[this]
 case buildSlice t len parts =>
  have:(parts.toList.map fun x=>(x.1,ρ x.2))=parts.toList.map fun x=>(x.1,ρ' x.2):=List.map_congr_left fun x hx=>by rw[h x.2 (by simp only[Op.operands,List.mem_toArray,List.mem_map];exact⟨x,hx,rfl⟩)]
  simp only[this]
 case makeFunc f first cap =>
  have h1:first.toList.map ρ=first.toList.map ρ':=List.map_congr_left fun x hx=>h x (by simp only[Op.operands,Array.mem_append];exact .inl (Array.mem_toList_iff.1 hx))
  have h2:cap.toList.map ρ=cap.toList.map ρ':=List.map_congr_left fun x hx=>h x (by simp only[Op.operands,Array.mem_append];exact .inr (Array.mem_toList_iff.1 hx))
  simp only[h1,h2]
 case slice t x lo hi m =>
  have h1:=h x (by simp[Op.operands])
  have h2:lo.map ρ=lo.map ρ':=by
   cases lo with
   | none=>rfl
   | some y=>exact congrArg some (h y (by simp[Op.operands]))
  have h3:hi.map ρ=hi.map ρ':=by
   cases hi with
   | none=>rfl
   | some y=>exact congrArg some (h y (by simp[Op.operands]))
  cases m with
  | none=>simp only[h1,h2,h3]
  | some m=>rfl
 case lookup t x i ok =>
  have h1:=h x (by simp[Op.operands])
  have h2:=h i (by simp[Op.operands])
  cases ok with
  | false=>simp only[h1,h2]
  | true=>simp only[h1,h2]
 all_goals (simp[Op.operands] at h;simp[h])
theorem R.back {w w':World}{M M':Nat→Prop}{B B':Loc→Option (Nat×Nat)}{hp:Heap}{ck ck':Nat}{v:V}{cv:Value}(h:R (mkK w' M' B' hp ck') v cv):∀ {cv0:Value},R (mkK w M B hp ck) v cv0→R (mkK w' M' B' hp ck) v cv:=by
 induction h with
 | top cv=>exact fun _=>.top cv
 | int ik n=>exact fun _=>.int ik n
 | bool b=>exact fun _=>.bool b
 | flt fk n=>exact fun _=>.flt fk n
 | cplx fk a b=>exact fun _=>.cplx fk a b
 | str s=>exact fun _=>.str s
 | nilp=>exact fun _=>.nilp
 | rawp L=>exact fun _=>.rawp L
 | mapp L=>exact fun _=>.mapp L
 | nilfn=>exact fun _=>.nilfn
 | tabp xs b ty fz hM hb hh=>exact fun _=>.tabp xs b ty fz hM hb hh
 | mapc o b hM hb hh=>exact fun _=>.mapc o b hM hb hh
 | nils=>exact fun _=>.nils
 | ptr l off cv h1 hn h=>exact fun {cv0} h0=>by cases h0 with | ptr _ _ _ _ hn0 _=>exact .ptr l off cv h1 hn0 h
 | eptr l n sz i off cv h1 hn h=>exact fun {cv0} h0=>by cases h0 with | eptr _ _ _ _ _ _ _ hn0 _=>exact .eptr l n sz i off cv h1 hn0 h
 | cptr cs b off x hM hb hp hc h ih=>exact fun _=>R.pure (k:=mkK w' M' B' _ ck') (k':=mkK w' M' B' _ ck) (fun b hb hM=>⟨hb,rfl,hM⟩) hp (.cptr cs b off x hM hb hp hc h)
 | sl0 sz get oa cap=>exact fun _=>.sl0 sz get oa cap
 | sl n sz get b off cap x hM hb hcap hp hl hc h ih=>exact fun _=>R.pure (k:=mkK w' M' B' _ ck') (k':=mkK w' M' B' _ ck) (fun b hb hM=>⟨hb,rfl,hM⟩) hp (.sl n sz get b off cap x hM hb hcap hp hl hc h)
 | msl l off len cv h1 hn h=>exact fun {cv0} h0=>by cases h0 with | msl _ _ _ _ _ hn0 _=>exact .msl l off len cv h1 hn0 h
 | bsl l off len cv h1 hn h=>exact fun {cv0} h0=>by cases h0 with | bsl _ _ _ _ _ hn0 _=>exact .bsl l off len cv h1 hn0 h
 | psl l n off len cv h1 hn h=>exact fun {cv0} h0=>by cases h0 with | psl _ _ _ _ _ _ hn0 _=>exact .psl l n off len cv h1 hn0 h
 | fn f first cap fs cs h1 h2 hf hc ihf ihc=>exact fun {cv0} h0=>by cases h0 with | fn _ _ _ fs0 cs0 _ _ hf0 hc0=>exact .fn f first cap fs cs h1 h2 (fun j v hv=>ihf j v hv (hf0 j v hv)) (fun j v hv=>ihc j v hv (hc0 j v hv))
 | agg cs xs hs h ih=>exact fun {cv0} h0=>by cases h0 with | agg _ xs0 _ h0=>exact .agg cs xs hs fun j v hv=>ih j v hv (h0 j v hv)
 | tup cs xs hs h ih=>exact fun {cv0} h0=>by cases h0 with | tup _ xs0 _ h0=>exact .tup cs xs hs fun j v hv=>ih j v hv (h0 j v hv)
theorem back_ok {w w':World}{M M':Nat→Prop}{B B':Loc→Option (Nat×Nat)}{hp:Heap}{ck ck':Nat}(hho:HeapOk (mkK w M B hp ck))(hst:Step (mkK w M B hp ck) (mkK w' M' B' hp ck'))(hho':HeapOk (mkK w' M' B' hp ck')) :
 Step (mkK w M B hp ck) (mkK w' M' B' hp ck)∧HeapOk (mkK w' M' B' hp ck):=by
 refine⟨⟨hst.os,hst.tape,hst.output,hst.size,hst.keep,hst.own,hst.M,hst.M2,fun _ h=>h,hst.names⟩,⟨hho'.lt,hho'.own,fun l o h=>hho.nm l o h,hho'.inj,fun l o h=>?_⟩⟩
 have h0:=hho.obj l o h
 have h1:=hho'.obj l o h
 cases o with
 | dead=>exact h1
 | raw r=>exact h1
 | cells cs =>
   obtain⟨b,c,xs,ty,fz,g1,g2,g3,g4,g5⟩:=h1
   obtain⟨_,_,xs0,_,_,_,_,_,_,g6⟩:=h0
   exact⟨b,c,xs,ty,fz,g1,g2,g3,g4,fun j v hv=>R.back (g5 j v hv) (g6 j v hv)⟩
 | buf c sz get =>
   obtain⟨g1,b,xs,ty,fz,g2,g3,g4,g5,g6⟩:=h1
   obtain⟨_,_,xs0,_,_,_,_,_,_,g7⟩:=h0
   exact⟨g1,b,xs,ty,fz,g2,g3,g4,g5,fun i j v hi hv=>R.back (g6 i j v hi hv) (g7 i j v hi hv)⟩
 | arr n sz get =>
   obtain⟨g1,g2,g3⟩:=h1
   obtain⟨_,_,g4⟩:=h0
   refine⟨g1,trivial,?_⟩
   have e1:(mkK w' M' B' hp ck').B l=B' l:=rfl
   have e2:(mkK w' M' B' hp ck).B l=B' l:=rfl
   have e3:(mkK w M B hp ck).B l=B l:=rfl
   rw[e1] at g3
   rw[e3] at g4
   rw[e2]
   cases hB:B' l with
   | none=>rw[hB] at g3;exact g3
   | some bc =>
     obtain⟨b,c⟩:=bc
     rw[hB] at g3
     obtain⟨p1,xs,ty,fz,p2,p3,p4,p5⟩:=g3
     refine⟨p1,xs,ty,fz,p2,p3,p4,fun i j v hi hv=>?_⟩
     cases hB0:B l with
     | none=>rw[hB0] at g4;have:n=0:=g4;omega
     | some bc0 =>
       obtain⟨b0,c0⟩:=bc0
       rw[hB0] at g4
       obtain⟨_,xs0,_,_,_,_,_,p6⟩:=g4
       exact R.back (p5 i j v hi hv) (p6 i j v hi hv)
def RdV (ck:Nat)(hp:Heap)(v:V):Prop:=Pu v∨∃ l n sz i off,v=.eptr l n sz i off∧zjB ck hp l
theorem RdV.R {w':World}{M':Nat→Prop}{B':Loc→Option (Nat×Nat)}{hp:Heap}{ck ck':Nat}{v:V}{cv:Value}(hv:RdV ck hp v)(h:Fly.R (mkK w' M' B' hp ck') v cv):Fly.R (mkK w' M' B' hp ck) v cv:=by
 rcases hv with hv | ⟨l,n,sz,i,off,rfl,hn⟩
 ·exact Fly.R.pure (k:=mkK w' M' B' hp ck') (k':=mkK w' M' B' hp ck) (fun b hb hM=>⟨hb,rfl,hM⟩) hv h
 ·cases h with
  | eptr _ _ _ _ _ _ h1 _ h=>exact .eptr l n sz i off cv h1 hn h
def ReadC (X:Cx)(o:Oper)(s:St)(v:V):Prop :=
 ∃ (c:Call) (x:Operand) (f:FuncId) (first cap:List V),o.op=.call c∧c.callee=.value x∧ev X s x=.fn (.func f) first cap∧zl X.P f∧RdV s.ck s.hp v ∧
  (X.Ok→zp X s.hp s.ck f (first++c.args.toList.map (ev X s)++cap) (fun r hp' _=>r=v∧hp'=s.hp))
theorem read_ok {X:Cx}(hX:X.Ok){o:Oper}{s:St}{v:V}(h:ReadC X o s v):y5 X o s (fun s'=>s'=⟨s.ck,putTm s.tm o.dst v,s.hp⟩):=by
 obtain⟨c,x,f,first,cap,ho,hc,hx,hen,hv,hcall⟩:=h
 refine zel hX ho hc hx hen ?_
 intro w M B vs hst hho hargs
 refine(hcall hX w M B vs hst hho hargs).mono fun e w' ⟨rv,r,hp',ck',M',B',⟨h1,h2⟩,he,h3,h4,h5⟩=>?_
 subst h1
 subst h2
 obtain⟨q1,q2⟩:=back_ok hho h3 h4
 exact⟨rv,r,s.hp,s.ck,M',B',rfl,he,q1,q2,hv.R h5⟩
class Hid (α:Type) where
 val:α
def RdQ (X:Cx)(o:Oper)(s:St)[h:Hid (V→Prop)]:Prop:=∃ v,ReadC X o s v∧h.val v
theorem RdQ.of {X:Cx}{o:Oper}{s:St}{K:V→Prop}{c:Call}{x:Operand}{f:FuncId}{first cap:List V}(v:V)(ho:o.op=.call c)(hc:c.callee=.value x)(hx:ev X s x=.fn (.func f) first cap)(hen:zl X.P f)(hv:RdV s.ck s.hp v)
 (hcall:X.Ok→zp X s.hp s.ck f (first++c.args.toList.map (ev X s)++cap) (fun r hp' _=>r=v∧hp'=s.hp)) (hK:K v):@RdQ X o s ⟨K⟩:=⟨v,⟨c,x,f,first,cap,ho,hc,hx,hen,hv,hcall⟩,hK⟩
theorem ReadC.move {X:Cx}{o:Oper}{s t:St}{v:V}(h:ReadC X o s v)(hck:t.ck=s.ck)(hhp:t.hp=s.hp)(hev:∀ x∈o.op.operands,ev X s x=ev X t x):ReadC X o t v:=by
 obtain⟨c,x,f,first,cap,ho,hc,hx,hen,hv,hcall⟩:=h
 have hargs:c.args.toList.map (ev X s)=c.args.toList.map (ev X t):=List.map_congr_left fun y hy=>hev y (by rw[ho];simp only[Op.operands,Call.operands,hc,Array.mem_append];exact .inr (Array.mem_toList_iff.1 hy))
 refine⟨c,x,f,first,cap,ho,hc,by rw[← hev x (by rw[ho];simp[Op.operands,Call.operands,hc])];exact hx,hen,by rw[hck,hhp];exact hv,fun hX=>?_⟩
 rw[hck,hhp,← hargs]
 exact hcall hX
theorem R.backH {w w':World}{M M':Nat→Prop}{B B':Loc→Option (Nat×Nat)}{hp hp':Heap}{ck ck':Nat}(hnm:∀ l,zjB ck hp l→zjB ck hp' l){v:V}{cv:Value}(h:R (mkK w' M' B' hp' ck') v cv) :
 ∀ {cv0:Value},R (mkK w M B hp ck) v cv0→R (mkK w' M' B' hp' ck) v cv:=by
 induction h with
 | top cv=>exact fun _=>.top cv
 | int ik n=>exact fun _=>.int ik n
 | bool b=>exact fun _=>.bool b
 | flt fk n=>exact fun _=>.flt fk n
 | cplx fk a b=>exact fun _=>.cplx fk a b
 | str s=>exact fun _=>.str s
 | nilp=>exact fun _=>.nilp
 | rawp L=>exact fun _=>.rawp L
 | mapp L=>exact fun _=>.mapp L
 | nilfn=>exact fun _=>.nilfn
 | tabp xs b ty fz hM hb hh=>exact fun _=>.tabp xs b ty fz hM hb hh
 | mapc o b hM hb hh=>exact fun _=>.mapc o b hM hb hh
 | nils=>exact fun _=>.nils
 | ptr l off cv h1 hn h=>exact fun {cv0} h0=>by cases h0 with | ptr _ _ _ _ hn0 _=>exact .ptr l off cv h1 (hnm _ hn0) h
 | eptr l n sz i off cv h1 hn h=>exact fun {cv0} h0=>by cases h0 with | eptr _ _ _ _ _ _ _ hn0 _=>exact .eptr l n sz i off cv h1 (hnm _ hn0) h
 | cptr cs b off x hM hb hp hc h ih=>exact fun _=>R.pure (k:=mkK w' M' B' _ ck') (k':=mkK w' M' B' _ ck) (fun b hb hM=>⟨hb,rfl,hM⟩) hp (.cptr cs b off x hM hb hp hc h)
 | sl0 sz get oa cap=>exact fun _=>.sl0 sz get oa cap
 | sl n sz get b off cap x hM hb hcap hp hl hc h ih=>exact fun _=>R.pure (k:=mkK w' M' B' _ ck') (k':=mkK w' M' B' _ ck) (fun b hb hM=>⟨hb,rfl,hM⟩) hp (.sl n sz get b off cap x hM hb hcap hp hl hc h)
 | msl l off len cv h1 hn h=>exact fun {cv0} h0=>by cases h0 with | msl _ _ _ _ _ hn0 _=>exact .msl l off len cv h1 (hnm _ hn0) h
 | bsl l off len cv h1 hn h=>exact fun {cv0} h0=>by cases h0 with | bsl _ _ _ _ _ hn0 _=>exact .bsl l off len cv h1 (hnm _ hn0) h
 | psl l n off len cv h1 hn h=>exact fun {cv0} h0=>by cases h0 with | psl _ _ _ _ _ _ hn0 _=>exact .psl l n off len cv h1 (hnm _ hn0) h
 | fn f first cap fs cs h1 h2 hf hc ihf ihc=>exact fun {cv0} h0=>by cases h0 with | fn _ _ _ fs0 cs0 _ _ hf0 hc0=>exact .fn f first cap fs cs h1 h2 (fun j v hv=>ihf j v hv (hf0 j v hv)) (fun j v hv=>ihc j v hv (hc0 j v hv))
 | agg cs xs hs h ih=>exact fun {cv0} h0=>by cases h0 with | agg _ xs0 _ h0=>exact .agg cs xs hs fun j v hv=>ih j v hv (h0 j v hv)
 | tup cs xs hs h ih=>exact fun {cv0} h0=>by cases h0 with | tup _ xs0 _ h0=>exact .tup cs xs hs fun j v hv=>ih j v hv (h0 j v hv)
theorem backH_ok {w w':World}{M M':Nat→Prop}{B B':Loc→Option (Nat×Nat)}{hp:Heap}{L:Loc}{cs cs':List V}{ck ck':Nat}(hho:HeapOk (mkK w M B hp ck))(hL:hp L=some (.cells cs))(hcs:∀ u∈cs',Pu u)
 (hst:Step (mkK w M B hp ck) (mkK w' M' B' (updH hp L (.cells cs')) ck')) (hho':HeapOk (mkK w' M' B' (updH hp L (.cells cs')) ck')) :
 Step (mkK w M B hp ck) (mkK w' M' B' (updH hp L (.cells cs')) ck)∧HeapOk (mkK w' M' B' (updH hp L (.cells cs')) ck):=by
 have hsome:∀ l,(hp l).isSome=true→(updH hp L (.cells cs') l).isSome=true:=fun l h=>by
  by_cases e:l=L
  ·subst e;rw[zd];rfl
  ·rw[zc e];exact h
 have hnm:∀ l,zjB ck hp l→zjB ck (updH hp L (.cells cs')) l:=fun l h=>by
  rcases h with q | ⟨q1,q2⟩
  ·exact .inl q
  ·exact .inr ⟨q1,hsome l q2⟩
 refine⟨⟨hst.os,hst.tape,hst.output,hst.size,hst.keep,hst.own,hst.M,hst.M2,fun l h=>hnm l h,hst.names⟩,⟨hho'.lt,hho'.own,fun l o h=>?_,hho'.inj,fun l o h=>?_⟩⟩
 ·have h:updH hp L (.cells cs') l=some o:=h
  by_cases e:l=L
  ·subst e;exact hnm _ (hho.nm _ _ hL)
  ·rw[zc e] at h
   exact hnm _ (hho.nm l o h)
 ·have h:updH hp L (.cells cs') l=some o:=h
  have h1:=hho'.obj l o h
  by_cases e:l=L
  ·subst e
   rw[zd] at h
   cases h
   obtain⟨b,c,xs,ty,fz,g1,g2,g3,g4,g5⟩:=h1
   exact⟨b,c,xs,ty,fz,g1,g2,g3,g4,fun j v hv=>R.pure (k:=mkK w' M' B' (updH hp l (.cells cs')) ck') (k':=mkK w' M' B' (updH hp l (.cells cs')) ck) (fun b hb hM=>⟨hb,rfl,hM⟩) (hcs v (yi hv)) (g5 j v hv)⟩
  ·rw[zc e] at h
   have h0:=hho.obj l o h
   cases o with
   | dead=>exact h1
   | raw r=>exact h1
   | cells cs =>
     obtain⟨b,c,xs,ty,fz,g1,g2,g3,g4,g5⟩:=h1
     obtain⟨_,_,xs0,_,_,_,_,_,_,g6⟩:=h0
     exact⟨b,c,xs,ty,fz,g1,g2,g3,g4,fun j v hv=>R.backH hnm (g5 j v hv) (g6 j v hv)⟩
   | buf c sz get =>
     obtain⟨g1,b,xs,ty,fz,g2,g3,g4,g5,g6⟩:=h1
     obtain⟨_,_,xs0,_,_,_,_,_,_,g7⟩:=h0
     exact⟨g1,b,xs,ty,fz,g2,g3,g4,g5,fun i j v hi hv=>R.backH hnm (g6 i j v hi hv) (g7 i j v hi hv)⟩
   | arr n sz get =>
     obtain⟨g1,g2,g3⟩:=h1
     obtain⟨_,_,g4⟩:=h0
     refine⟨g1,trivial,?_⟩
     have e1:(mkK w' M' B' (updH hp L (.cells cs')) ck').B l=B' l:=rfl
     have e2:(mkK w' M' B' (updH hp L (.cells cs')) ck).B l=B' l:=rfl
     have e3:(mkK w M B hp ck).B l=B l:=rfl
     rw[e1] at g3
     rw[e3] at g4
     rw[e2]
     cases hB:B' l with
     | none=>rw[hB] at g3;exact g3
     | some bc =>
       obtain⟨b,c⟩:=bc
       rw[hB] at g3
       obtain⟨p1,xs,ty,fz,p2,p3,p4,p5⟩:=g3
       refine⟨p1,xs,ty,fz,p2,p3,p4,fun i j v hi hv=>?_⟩
       cases hB0:B l with
       | none=>rw[hB0] at g4;have:n=0:=g4;omega
       | some bc0 =>
         obtain⟨b0,c0⟩:=bc0
         rw[hB0] at g4
         obtain⟨_,xs0,_,_,_,_,_,p6⟩:=g4
         exact R.backH hnm (p5 i j v hi hv) (p6 i j v hi hv)
def WrC (X:Cx)(o:Oper)(s:St)(L:Loc)(v:V)(cs':List V):Prop :=
 ∃ (c:Call) (x:Operand) (f:FuncId) (first cap:List V),o.op=.call c∧c.callee=.value x∧ev X s x=.fn (.func f) first cap∧zl X.P f∧Pu v∧(∀ u∈cs',Pu u)∧(∃ cs,s.hp L=some (.cells cs)) ∧
  (X.Ok→∀ hp2:Heap,hp2 L=s.hp L→zp X hp2 s.ck f (first++c.args.toList.map (ev X s)++cap) (fun r hp' _=>r=v∧hp'=updH hp2 L (.cells cs')))
theorem zkk {X:Cx}(hX:X.Ok){o:Oper}{s:St}{L:Loc}{v:V}{cs':List V}(h:WrC X o s L v cs'):y5 X o s (fun s'=>s'=⟨s.ck,putTm s.tm o.dst v,updH s.hp L (.cells cs')⟩):=by
 obtain⟨c,x,f,first,cap,ho,hc,hx,hen,hv,hcs,⟨cs,hL⟩,hcall⟩:=h
 refine zel hX ho hc hx hen ?_
 intro w M B vs hst hho hargs
 refine(hcall hX s.hp rfl w M B vs hst hho hargs).mono fun e w' ⟨rv,r,hp',ck',M',B',⟨h1,h2⟩,he,h3,h4,h5⟩=>?_
 subst h1
 subst h2
 obtain⟨q1,q2⟩:=backH_ok hho hL hcs h3 h4
 exact⟨rv,r,updH s.hp L (.cells cs'),s.ck,M',B',rfl,he,q1,q2,R.pure (k:=mkK w' M' B' (updH s.hp L (.cells cs')) ck') (k':=mkK w' M' B' (updH s.hp L (.cells cs')) s.ck) (fun b hb hM=>⟨hb,rfl,hM⟩) hv h5⟩
theorem WrC.move {X:Cx}{o:Oper}{s t:St}{L:Loc}{v:V}{cs':List V}(h:WrC X o s L v cs')(hck:t.ck=s.ck)(hhp:t.hp L=s.hp L)(hev:∀ x∈o.op.operands,ev X s x=ev X t x):WrC X o t L v cs':=by
 obtain⟨c,x,f,first,cap,ho,hc,hx,hen,hv,hcs,hL,hcall⟩:=h
 have hargs:c.args.toList.map (ev X s)=c.args.toList.map (ev X t):=List.map_congr_left fun y hy=>hev y (by rw[ho];simp only[Op.operands,Call.operands,hc,Array.mem_append];exact .inr (Array.mem_toList_iff.1 hy))
 refine⟨c,x,f,first,cap,ho,hc,by rw[← hev x (by rw[ho];simp[Op.operands,Call.operands,hc])];exact hx,hen,hv,hcs,by rw[hhp];exact hL,fun hX hp2 h2=>?_⟩
 rw[hck,← hargs]
 exact hcall hX hp2 (h2.trans hhp)
def WrQ (X:Cx)(o:Oper)(s:St)[h:Hid (Loc→V→List V→Prop)]:Prop:=∃ L v cs',WrC X o s L v cs'∧h.val L v cs'
theorem WrQ.of {X:Cx}{o:Oper}{s:St}{K:Loc→V→List V→Prop}{c:Call}{x:Operand}{f:FuncId}{first cap:List V}(L:Loc)(v:V)(cs':List V){cs:List V}(ho:o.op=.call c)(hc:c.callee=.value x)(hx:ev X s x=.fn (.func f) first cap)(hen:zl X.P f)
 (hv:Pu v) (hcs:∀ u∈cs',Pu u) (hL:s.hp L=some (.cells cs)) (hcall:X.Ok→∀ hp2:Heap,hp2 L=some (.cells cs)→zp X hp2 s.ck f (first++c.args.toList.map (ev X s)++cap) (fun r hp' _=>r=v∧hp'=updH hp2 L (.cells cs'))) (hK:K L v cs') :
 @WrQ X o s ⟨K⟩:=⟨L,v,cs',⟨c,x,f,first,cap,ho,hc,hx,hen,hv,hcs,⟨cs,hL⟩,fun hX hp2 h2=>hcall hX hp2 (h2.trans hL)⟩,hK⟩
def wrKey (d:Nat):FuncId:=4000+d
def isWr (X:Cx)(dst:Option Tmp):Bool :=
 match dst with
 | some d=>(X.Γ (wrKey d)).isSome
 | none=>false
def Rd.free:Rd→Option Loc→Prop
 | _,none=>True
 | .locs ls,some l=>l∉ls
 | .cond p,some _=>p
def zkl:Option Loc→Option Loc→Prop
 | some a,some b=>a≠b
 | _,_=>True
abbrev kv:=Nat×Rd×Option Loc
def zct (un:List Nat)(rd:Rd)(wl:Option Loc):List kv→Prop
 | []=>True
 | e::rest=>(e.1∈un→rd.free e.2.2∧e.2.1.free wl∧zkl wl e.2.2)∧zct un rd wl rest
theorem zct.spec {un:List Nat}{rd:Rd}{wl:Option Loc}:∀ {log:List kv},zct un rd wl log→∀ e∈log,e.1∈un→rd.free e.2.2∧e.2.1.free wl∧zkl wl e.2.2
 | [],_,e,he,_=>by cases he
 | x::rest,h,e,he,hu=>by
   rcases List.mem_cons.1 he with rfl | he
   ·exact h.1 hu
   ·exact zct.spec h.2 e he hu
def j9 (i:Nat)(rd:Rd)(wl:Option Loc)(log:List kv):List kv :=
 match rd,wl with
 | .locs [],none=>log
 | rd,wl=>(i,rd,wl)::log
def okL (un:List Nat)(rd:Rd)(wl:Option Loc)(log:List kv):Prop :=
 match rd,wl with
 | .locs [],none=>True
 | rd,wl=>zct un rd wl log
def Apart (r1:Rd)(w1:Option Loc)(r2:Rd)(w2:Option Loc):Prop:=r1.free w2∧r2.free w1∧zkl w1 w2
theorem Apart.quiet_left {r:Rd}{w:Option Loc}:Apart (.locs []) none r w:=by
 refine⟨?_,?_,trivial⟩
 ·cases w with
  | none=>trivial
  | some l=>exact List.not_mem_nil
 ·cases r <;> trivial
theorem Apart.symm {r1 r2:Rd}{w1 w2:Option Loc}(h:Apart r1 w1 r2 w2):Apart r2 w2 r1 w1:=by
 obtain⟨a,b,c⟩:=h
 refine⟨b,a,?_⟩
 revert c
 cases w1 <;> cases w2 <;> simp[zkl] <;> intro c q <;> exact c (q.symm)
theorem okL.spec {un:List Nat}{rd:Rd}{wl:Option Loc}{log:List kv}(h:okL un rd wl log):∀ e∈log,e.1∈un→Apart rd wl e.2.1 e.2.2:=by
 unfold okL at h
 split at h
 ·exact fun e _ _=>Apart.quiet_left
 ·exact zct.spec h
theorem zjF {i:Nat}{rd:Rd}{wl:Option Loc}{log:List kv}:(i,rd,wl)∈j9 i rd wl log∨(rd=.locs []∧wl=none):=by
 unfold j9
 split
 ·exact .inr ⟨rfl,rfl⟩
 ·exact .inl (by simp)
theorem zdR {i:Nat}{rd:Rd}{wl:Option Loc}{log:List kv}{e:kv}(h:e∈log):e∈j9 i rd wl log:=by
 unfold j9
 split
 ·exact h
 ·exact List.mem_cons_of_mem _ h
noncomputable def zby (X:Cx) (o:Oper) (un:List Nat) (i:Nat) (log:List kv) (K:St→List kv→Prop) (s:St):Prop :=
 match opE X o s.ck s.hp (ev X s) with
 | some (p,v,hp')=>p∧okL un (rdOf o (ev X s)) (wlOf o s.ck (ev X s)) log∧K ⟨s.ck,putTm s.tm o.dst v,hp'⟩ (j9 i (rdOf o (ev X s)) (wlOf o s.ck (ev X s)) log)
 | none=>if isWr X o.dst=true then @WrQ X o s ⟨fun L v cs'=>okL un (.locs [L]) (some L) log∧K ⟨s.ck,putTm s.tm o.dst v,updH s.hp L (.cells cs')⟩ (j9 i (.locs [L]) (some L) log)⟩
   else okL un (.cond False) none log∧@RdQ X o s ⟨fun v=>K ⟨s.ck,putTm s.tm o.dst v,s.hp⟩ (j9 i (.cond False) none log)⟩
noncomputable def exD (X:Cx) (ops:Array Oper):List (Oper×List Nat)→Nat→St→List kv→(St→Prop)→Prop
 | [],_,s,_,Kn=>Kn s
 | (o,un)::rest,i,s,log,Kn =>
   match o.guard with
   | none=>zby X o un i log (fun s' log'=>exD X ops rest (i+1) s' log' Kn) s
   | some (j,want) =>
     match (ops[j]?).bind (·.dst) with
     | some d =>
       match s.tm.getD d .top with
       | .bool b=>(b=want→zby X o un i log (fun s' log'=>exD X ops rest (i+1) s' log' Kn) ⟨s.ck,s.tm.set d (.bool want),s.hp⟩) ∧
        (b=!want→exD X ops rest (i+1) ⟨s.ck,putTm (s.tm.set d (.bool (!want))) o.dst undefV,s.hp⟩ log Kn)
       | .tup []=>exD X ops rest (i+1) ⟨s.ck,putTm s.tm o.dst undefV,s.hp⟩ log Kn
       | _=>False
     | none=>False
def wantV (ops:Array Oper)(tm:List V)(o:Oper):Option Bool :=
 match o.guard with
 | none=>some true
 | some (j,want) =>
   match (ops[j]?).bind (·.dst) with
   | some d =>
     match tm.getD d .top with
     | .bool b=>some (b == want)
     | .tup []=>some false
     | _=>none
   | none=>none
structure TStep (X:Cx) (ops:Array Oper) (o:Oper) (s s':St) (v:V) (rd:Rd) (wl:Option Loc):Prop where
 ck:s'.ck=s.ck
 tm:s'.tm=putTm s.tm o.dst v
 act:(wantV ops s.tm o=some true∧rd=rdOf o (ev X s)∧wl=wlOf o s.ck (ev X s)∧∃ p,p∧opE X o s.ck s.hp (ev X s)=some (p,v,s'.hp)) ∨
  (wantV ops s.tm o=some false∧v=undefV∧s'.hp=s.hp∧rd=.locs []∧wl=none) ∨
  (wantV ops s.tm o=some true∧s'.hp=s.hp∧rd=.cond False∧wl=none∧ReadC X o s v) ∨
  (wantV ops s.tm o=some true∧∃ L cs',rd=.locs [L]∧wl=some L∧s'.hp=updH s.hp L (.cells cs')∧WrC X o s L v cs')
theorem zhu {l:List V}{d:Nat}{b:Bool}(h:l.getD d .top=.bool b):l.set d (.bool b)=l:=by
 apply List.ext_getElem?
 intro i
 rw[List.getElem?_set]
 by_cases e:d=i
 ·subst e
  rw[List.getD_eq_getElem?_getD] at h
  cases q:l[d]? with
  | none=>rw[q] at h;cases h
  | some v =>
    rw[q] at h
    have hlt:=(List.getElem?_eq_some_iff.1 q).1
    simp only[if_true,hlt]
    exact congrArg some h.symm
 ·simp only[e,if_false]
theorem zfL {X:Cx}{ops:Array Oper}{Kn:St→Prop}:∀ (l:List (Oper×List Nat)) (i:Nat) (s:St) (log:List kv),exD X ops l i s log Kn →
 ∃ (S:Nat→St) (vv:Nat→V) (rd:Nat→Rd) (wl:Nat→Option Loc),S i=s∧Kn (S (i+l.length))∧∀ k o un,l[k]?=some (o,un) →
  TStep X ops o (S (i+k)) (S (i+k+1)) (vv (i+k)) (rd (i+k)) (wl (i+k)) ∧
  (∀ e∈log,e.1∈un→Apart (rd (i+k)) (wl (i+k)) e.2.1 e.2.2) ∧
  ∀ j,i≤j→j < i+k→j∈un→Apart (rd (i+k)) (wl (i+k)) (rd j) (wl j)
 | [],i,s,log,h=>⟨fun _=>s,fun _=>.top,fun _=>.locs [],fun _=>none,rfl,h,fun k o un hk=>by simp at hk⟩
 | (o,un)::rest,i,s,log,h=>by
   have main:∀ (s1:St) (v:V) (rd0:Rd) (wl0:Option Loc),TStep X ops o s s1 v rd0 wl0→(∀ e∈log,e.1∈un→Apart rd0 wl0 e.2.1 e.2.2)→exD X ops rest (i+1) s1 (j9 i rd0 wl0 log) Kn →
    ∃ (S:Nat→St) (vv:Nat→V) (rd:Nat→Rd) (wl:Nat→Option Loc),S i=s∧Kn (S (i+((o,un)::rest).length))∧∀ k o' un',((o,un)::rest)[k]?=some (o',un') →
     TStep X ops o' (S (i+k)) (S (i+k+1)) (vv (i+k)) (rd (i+k)) (wl (i+k)) ∧
     (∀ e∈log,e.1∈un'→Apart (rd (i+k)) (wl (i+k)) e.2.1 e.2.2) ∧
     ∀ j,i≤j→j < i+k→j∈un'→Apart (rd (i+k)) (wl (i+k)) (rd j) (wl j):=by
    intro s1 v rd0 wl0 hT hlog hrest
    obtain⟨S,vv,rd,wl,h1,h2,h3⟩:=zfL rest (i+1) s1 _ hrest
    refine⟨fun m=>if m=i then s else S m,fun m=>if m=i then v else vv m,fun m=>if m=i then rd0 else rd m,fun m=>if m=i then wl0 else wl m,if_pos rfl,?_,fun k o' un' hk=>?_⟩
    ·have:i+((o,un)::rest).length=i+1+rest.length:=by simp;omega
     rw[this]
     simp only[show ¬ (i+1+rest.length=i) by omega,if_false]
     exact h2
    ·cases k with
     | zero =>
       simp only[List.getElem?_cons_zero,Option.some.injEq,Prod.mk.injEq] at hk
       obtain⟨rfl,rfl⟩:=hk
       simp only[Nat.add_zero,if_true,show ¬ (i+1=i) by omega,if_false]
       rw[h1]
       exact⟨hT,hlog,fun j h1 h2=>by omega⟩
     | succ k =>
       simp only[List.getElem?_cons_succ] at hk
       obtain⟨q1,q2,q3⟩:=h3 k o' un' hk
       have e1:i+(k+1)=i+1+k:=by omega
       simp only[e1,show ¬ (i+1+k=i) by omega,show ¬ (i+1+k+1=i) by omega,if_false]
       refine⟨q1,fun e he hu=>q2 e (zdR he) hu,fun j hj1 hj2 hu=>?_⟩
       by_cases e:j=i
       ·subst e
        simp only[if_true]
        rcases zjF (i:=j) (rd:=rd0) (wl:=wl0) (log:=log) with hm | ⟨hm1,hm2⟩
        ·exact q2 (j,rd0,wl0) hm hu
        ·rw[hm1,hm2];exact Apart.quiet_left.symm
       ·simp only[e,if_false]
        exact q3 j (by omega) hj2 hu
   have runs:zby X o un i log (fun s' log'=>exD X ops rest (i+1) s' log' Kn) s→wantV ops s.tm o=some true →
    ∃ (S:Nat→St) (vv:Nat→V) (rd:Nat→Rd) (wl:Nat→Option Loc),S i=s∧Kn (S (i+((o,un)::rest).length))∧∀ k o' un',((o,un)::rest)[k]?=some (o',un') →
     TStep X ops o' (S (i+k)) (S (i+k+1)) (vv (i+k)) (rd (i+k)) (wl (i+k)) ∧
     (∀ e∈log,e.1∈un'→Apart (rd (i+k)) (wl (i+k)) e.2.1 e.2.2) ∧
     ∀ j,i≤j→j < i+k→j∈un'→Apart (rd (i+k)) (wl (i+k)) (rd j) (wl j):=fun hs hw=>by
    unfold zby at hs
    cases hE:opE X o s.ck s.hp (ev X s) with
    | none =>
      rw[hE] at hs
      by_cases hwr:isWr X o.dst=true
      ·simp only[if_pos hwr] at hs
       obtain⟨L,v,cs',h2,h1,h3⟩:=hs
       exact main ⟨s.ck,putTm s.tm o.dst v,updH s.hp L (.cells cs')⟩ v (.locs [L]) (some L) ⟨rfl,rfl,.inr (.inr (.inr ⟨hw,L,cs',rfl,rfl,rfl,h2⟩))⟩ (okL.spec h1) h3
      simp only[if_neg hwr] at hs
      obtain⟨h1,v,h2,h3⟩:=hs
      exact main ⟨s.ck,putTm s.tm o.dst v,s.hp⟩ v (.cond False) none ⟨rfl,rfl,.inr (.inr (.inl ⟨hw,rfl,rfl,rfl,h2⟩))⟩ (okL.spec h1) h3
    | some r =>
      obtain⟨p,v,hp'⟩:=r
      rw[hE] at hs
      exact main ⟨s.ck,putTm s.tm o.dst v,hp'⟩ v _ _ ⟨rfl,rfl,.inl ⟨hw,rfl,rfl,p,hs.1,hE⟩⟩ (okL.spec hs.2.1) hs.2.2
   unfold exD at h
   cases hg:o.guard with
   | none =>
     simp only[hg] at h
     exact runs h (by simp[wantV,hg])
   | some jw =>
     obtain⟨j,want⟩:=jw
     simp only[hg] at h
     cases hj:(ops[j]?).bind (·.dst) with
     | none=>simp[hj] at h
     | some d =>
       simp only[hj] at h
       cases hd:s.tm.getD d .top with
       | bool b =>
         simp only[hd] at h
         by_cases e:b=want
         ·subst e
          have h1:=h.1 rfl
          rw[zhu hd] at h1
          exact runs h1 (by simp only[wantV,hg,hj,hd];simp)
         ·have e2:b=!want:=by cases b <;> cases want <;> simp_all
          subst e2
          have h2:=h.2 rfl
          rw[zhu hd] at h2
          exact main ⟨s.ck,putTm s.tm o.dst undefV,s.hp⟩ undefV (.locs []) none ⟨rfl,rfl,.inr (.inl ⟨by simp only[wantV,hg,hj,hd];cases want <;> rfl,rfl,rfl,rfl,rfl⟩)⟩ (fun e _ _=>Apart.quiet_left) h2
       | tup vs =>
         cases vs with
         | cons v vs=>rw[hd] at h;exact h.elim
         | nil =>
           simp only[hd] at h
           exact main ⟨s.ck,putTm s.tm o.dst undefV,s.hp⟩ undefV (.locs []) none ⟨rfl,rfl,.inr (.inl ⟨by simp only[wantV,hg,hj,hd],rfl,rfl,rfl,rfl⟩)⟩ (fun e _ _=>Apart.quiet_left) h
       | _=>rw[hd] at h;exact h.elim
def qT (o:Oper):Bool :=
 match o.op with
 | .move _ | .assign _ | .pick .. | .build .. | .binOp .. | .unOp .. | .makeFunc .. | .field .. | .index .. | .extract ..=>true
 | .convert s t _=>decide (s≠t)
 | .call { callee:=.builtin .max,.. } | .call { callee:=.builtin .min,.. }=>true
 | _=>false
theorem ReadC.loud {X:Cx}{o:Oper}{s:St}{v:V}(h:ReadC X o s v):qT o=false:=by
 obtain⟨c,x,f,first,cap,ho,hc,_⟩:=h
 obtain⟨callee,args,argTypes⟩:=c
 have hc:callee=.value x:=hc
 subst hc
 unfold qT
 rw[ho]
theorem WrC.loud {X:Cx}{o:Oper}{s:St}{L:Loc}{v:V}{cs':List V}(h:WrC X o s L v cs'):qT o=false:=by
 obtain⟨c,x,f,first,cap,ho,hc,_⟩:=h
 obtain⟨callee,args,argTypes⟩:=c
 have hc:callee=.value x:=hc
 subst hc
 unfold qT
 rw[ho]
theorem qT.spec {o:Oper}(h:qT o=true)(ρ:Operand→V)(ck:Nat):rdOf o ρ=.locs []∧wlOf o ck ρ=none:=by
 unfold qT at h
 split at h <;> first | (cases h;done) | (rename_i ho;simp[rdOf,wlOf,ho];done) | (rename_i ho;have h:=of_decide_eq_true h;simp[rdOf,wlOf,ho,h])
def qk (ol:List Oper)(i:Nat):Bool:=match ol[i]? with | some o=>qT o | none=>false
def zbz (ops:Array Oper)(bt:List Nat)(tab:List (List Nat)):Bool :=
 let ol:=ops.toList
 let n:=ol.length
 (List.range n).all fun i =>
  match ol[i]? with
  | none=>false
  | some o =>
    o.after.toList.all (fun e=>!Region.binds .any e || decide (e.on < i)) &&
    (List.range n).all (fun j=>!(bt.getD i 0).testBit j || (decide (j < i) && o.after.toList.any fun e=>Region.binds .any e && (e.on == j || (bt.getD e.on 0).testBit j))) &&
    (o.looksAt ops).all (fun t=>(List.range n).all fun j=>((bt.getD i 0).testBit j || (bt.getD j 0).testBit i || j == i) || match ol[j]? with | some oj=>!(oj.dst == some t) | none=>true) &&
    (List.range i).all (fun j=>match ol[j]? with | some oj=>oj.dst == none || !(oj.dst == o.dst) | none=>true) &&
    (List.range i).all (fun j=>(bt.getD i 0).testBit j || ((tab.getD i []).contains j || (qk ol i || qk ol j)))
structure Stat (ops:Array Oper) (bef:Nat→Nat→Prop) (un:Nat→Nat→Prop):Prop where
 edge:∀ (i:Nat) (o:Oper),ops[i]?=some o→∀ e∈o.after,Region.binds .any e=true→e.on < i
 lt:∀ i j,bef i j→j < i
 size:∀ i j,bef i j→i < ops.size
 step:∀ (i j:Nat) (o:Oper),ops[i]?=some o→bef i j→∃ e∈o.after,Region.binds .any e=true∧(e.on=j∨bef e.on j)
 temps:∀ (i:Nat) (o:Oper),ops[i]?=some o→∀ t∈o.looksAt ops,∀ (j:Nat) (oj:Oper),ops[j]?=some oj→oj.dst=some t→bef i j∨bef j i∨j=i
 dst:∀ (i j:Nat) (oi oj:Oper) (d:Tmp),ops[i]?=some oi→ops[j]?=some oj→oi.dst=some d→oj.dst=some d→i=j
 tot:∀ i j,i < ops.size→j < i→bef i j∨un i j
theorem zbz.spec {ops:Array Oper}{bt:List Nat}{tab:List (List Nat)}(h:zbz ops bt tab=true) :
 Stat ops (fun i j=>i < ops.size∧j < ops.size∧(bt.getD i 0).testBit j=true) (fun i j=>j∈tab.getD i []∨qk ops.toList i=true∨qk ops.toList j=true):=by
 have hn:ops.toList.length=ops.size:=by simp
 have get:∀ i o,ops[i]?=some o→i < ops.size∧ops.toList[i]?=some o:=fun i o h=>by
  refine⟨(Array.getElem?_eq_some_iff.1 h).1,by simpa using h⟩
 have key:∀ i o,ops[i]?=some o→_:=fun i o ho=>by
  have h1:=List.all_eq_true.1 h i (List.mem_range.2 (by rw[hn];exact(get i o ho).1))
  rw[(get i o ho).2] at h1
  simp only[Bool.and_eq_true] at h1
  exact h1
 refine⟨fun i o ho e he hb=>?_,fun i j hb=>?_,fun i j hb=>hb.1,fun i j o ho hb=>?_,fun i o ho t ht j oj hj hd=>?_,fun i j oi oj d hi hj h1 h2=>?_,fun i j hi hj=>?_⟩
 ·obtain⟨⟨⟨⟨k1,k2⟩,k3⟩,k4⟩,k5⟩:=key i o ho
  have:=List.all_eq_true.1 k1 e (Array.mem_toList_iff.2 he)
  simp only[hb,Bool.not_true,Bool.false_or,decide_eq_true_eq] at this
  exact this
 ·obtain⟨hi,hj,hb⟩:=hb
  obtain⟨⟨⟨⟨k1,k2⟩,k3⟩,k4⟩,k5⟩:=key i ops[i] (Array.getElem?_eq_getElem hi)
  have:=List.all_eq_true.1 k2 j (List.mem_range.2 (by rw[hn];exact hj))
  simp only[hb,Bool.not_true,Bool.false_or,Bool.and_eq_true,decide_eq_true_eq] at this
  exact this.1
 ·obtain⟨hi,hj,hb⟩:=hb
  obtain⟨⟨⟨⟨k1,k2⟩,k3⟩,k4⟩,k5⟩:=key i o ho
  have:=List.all_eq_true.1 k2 j (List.mem_range.2 (by rw[hn];exact hj))
  simp only[hb,Bool.not_true,Bool.false_or,Bool.and_eq_true,decide_eq_true_eq] at this
  obtain⟨e,he,h3⟩:=List.any_eq_true.1 this.2
  simp only[Bool.and_eq_true,Bool.or_eq_true,beq_iff_eq] at h3
  have hlt:=List.all_eq_true.1 k1 e he
  simp only[h3.1,Bool.not_true,Bool.false_or,decide_eq_true_eq] at hlt
  refine⟨e,Array.mem_toList_iff.1 he,h3.1,?_⟩
  rcases h3.2 with q | q
  ·exact .inl q
  ·exact .inr ⟨by omega,hj,q⟩
 ·obtain⟨⟨⟨⟨k1,k2⟩,k3⟩,k4⟩,k5⟩:=key i o ho
  have h1:=List.all_eq_true.1 k3 t ht
  have h2:=List.all_eq_true.1 h1 j (List.mem_range.2 (by rw[hn];exact(get j oj hj).1))
  rw[(get j oj hj).2] at h2
  simp only[hd,beq_self_eq_true,Bool.not_true,Bool.or_false,Bool.or_eq_true,beq_iff_eq] at h2
  rcases h2 with(q | q) | q
  ·exact .inl ⟨(get i o ho).1,(get j oj hj).1,q⟩
  ·exact .inr (.inl ⟨(get j oj hj).1,(get i o ho).1,q⟩)
  ·exact .inr (.inr q)
 ·have main:∀ (i j:Nat) (oi oj:Oper),ops[i]?=some oi→ops[j]?=some oj→oi.dst=some d→oj.dst=some d→¬ j < i:=by
   intro i j oi oj hi hj h1 h2 hlt
   obtain⟨⟨⟨⟨k1,k2⟩,k3⟩,k4⟩,k5⟩:=key i oi hi
   have h3:=List.all_eq_true.1 k4 j (List.mem_range.2 hlt)
   rw[(get j oj hj).2] at h3
   simp[h1,h2] at h3
  have a:=main i j oi oj hi hj h1 h2
  have b:=main j i oj oi hj hi h2 h1
  omega
 ·obtain⟨⟨⟨⟨k1,k2⟩,k3⟩,k4⟩,k5⟩:=key i ops[i] (Array.getElem?_eq_getElem hi)
  have h1:=List.all_eq_true.1 k5 j (List.mem_range.2 hj)
  simp only[Bool.or_eq_true] at h1
  rcases h1 with q | q
  ·exact .inl ⟨hi,by omega,q⟩
  ·exact .inr (q.imp (fun q=>by simpa using q) id)
open Classical in
noncomputable def lastR {α:Type} (c:Nat→Prop) (f:Nat→α) (b:α):Nat→α
 | 0=>b
 | k+1=>if c k then f k else lastR c f b k
theorem zbY {α:Type}{c:Nat→Prop}{f:Nat→α}{b:α}{k:Nat}(h:c k):lastR c f b (k+1)=f k:=if_pos h
theorem zdZ {α:Type}{c:Nat→Prop}{f:Nat→α}{b:α}{k:Nat}(h:¬ c k):lastR c f b (k+1)=lastR c f b k:=if_neg h
theorem yq {α:Type}{c c':Nat→Prop}{f:Nat→α}{b:α}:∀ {n:Nat},(∀ k,k < n→(c k↔c' k))→lastR c f b n=lastR c' f b n
 | 0,_=>rfl
 | n+1,h=>by
   have ih:=yq (f:=f) (b:=b) (n:=n) fun k hk=>h k (by omega)
   by_cases hc:c n
   ·rw[zbY hc,zbY ((h n (by omega)).1 hc)]
   ·rw[zdZ hc,zdZ fun q=>hc ((h n (by omega)).2 q),ih]
theorem ju {α:Type}{c:Nat→Prop}{f:Nat→α}{b:α}{m:Nat}:∀ {n:Nat},m≤n→(∀ k,m≤k→k < n→¬ c k)→lastR c f b n=lastR c f b m
 | 0,hm,_=>by rw[Nat.le_zero.1 hm]
 | n+1,hm,h=>by
   by_cases e:m=n+1
   ·rw[e]
   ·rw[zdZ (h n (by omega) (by omega)),ju (by omega) fun k h1 h2=>h k h1 (by omega)]
theorem zbh {α:Type}{c:Nat→Prop}{f:Nat→α}{b:α}{n i:Nat}(hi:i < n)(hc:c i)(h:∀ k,i < k→k < n→¬ c k):lastR c f b n=f i:=by
 rw[ju (m:=i+1) hi fun k h1 h2=>h k h1 h2,zbY hc]
section
variable {X:Cx} {ops:Array Oper} {bef:Nat→Nat→Prop} {un:Nat→Nat→Prop} {S:Nat→St} {vv:Nat→V} {rd:Nat→Rd} {wl:Nat→Option Loc}
def dstOf (ops:Array Oper)(k d:Nat):Prop:=(ops[k]?).bind (·.dst)=some d
structure At (ops:Array Oper) (S:Nat→St) (vv:Nat→V) (wl:Nat→Option Loc) (L:Nat→Prop) (t:St):Prop where
 ck:t.ck=(S 0).ck
 len:t.tm.length=(S 0).tm.length
 tm:∀ d,t.tm.getD d .top=lastR (fun k=>L k∧dstOf ops k d) (fun k=>if d < (S 0).tm.length then vv k else .top) ((S 0).tm.getD d .top) ops.size
 hp:∀ l,t.hp l=lastR (fun k=>L k∧wl k=some l) (fun k=>(S (k+1)).hp l) ((S 0).hp l) ops.size
structure Trace (X:Cx) (ops:Array Oper) (un:Nat→Nat→Prop) (S:Nat→St) (vv:Nat→V) (rd:Nat→Rd) (wl:Nat→Option Loc):Prop where
 step:∀ (i:Nat) (o:Oper),ops[i]?=some o→TStep X ops o (S i) (S (i+1)) (vv i) (rd i) (wl i)
 apart:∀ (i j:Nat),i < ops.size→j < i→un i j→Apart (rd i) (wl i) (rd j) (wl j)
theorem zaJ (tm:List V)(dst:Option Tmp)(v:V):(putTm tm dst v).length=tm.length:=by cases dst <;> simp[putTm]
theorem zcN (tm:List V)(dst:Option Tmp)(v:V)(d:Nat):(putTm tm dst v).getD d .top=if dst=some d then (if d < tm.length then v else .top) else tm.getD d .top:=by
 cases dst with
 | none=>simp[putTm]
 | some e =>
   simp only[putTm,List.getD_eq_getElem?_getD,List.getElem?_set,Option.some.injEq]
   by_cases h:e=d
   ·subst h
    by_cases h2:e < tm.length <;> simp[h2]
   ·simp[h]
theorem TStep.frame {o:Oper}{s s':St}{v:V}{r:Rd}{w:Option Loc}(h:TStep X ops o s s' v r w){l:Loc}(hl:w≠some l):s'.hp l=s.hp l:=by
 rcases h.act with⟨_,_,hw,p,_,hE⟩ | ⟨_,_,hp,_,_⟩ | ⟨_,hp,_⟩ | ⟨_,L,cs',_,hw,hp,_⟩
 ·exact(zan X o s.ck (ev X s) s.hp p v s'.hp hE).1 l (by rw[← hw];exact hl)
 ·rw[hp]
 ·rw[hp]
 ·rw[hp,zc fun q=>hl (by rw[hw,q])]
theorem Trace.ck (ht:Trace X ops un S vv rd wl):∀ i,i≤ops.size→(S i).ck=(S 0).ck∧(S i).tm.length=(S 0).tm.length
 | 0,_=>⟨rfl,rfl⟩
 | i+1,hi=>by
   have h:=ht.step i _ (Array.getElem?_eq_getElem (show i < ops.size by omega))
   obtain⟨h1,h2⟩:=ht.ck i (by omega)
   exact⟨h.ck.trans h1,by rw[h.tm,zaJ];exact h2⟩
theorem Trace.text (hs:Stat ops bef un)(ht:Trace X ops un S vv rd wl):∀ i,i≤ops.size→At ops S vv wl (· < i) (S i)
 | 0,_=>by
   refine⟨rfl,rfl,fun d=>?_,fun l=>?_⟩
   ·rw[ju (m:=0) (Nat.zero_le _) fun k _ _ h=>by omega];rfl
   ·rw[ju (m:=0) (Nat.zero_le _) fun k _ _ h=>by omega];rfl
 | i+1,hi=>by
   have ih:=ht.text hs i (by omega)
   have hlt:i < ops.size:=by omega
   have h:=ht.step i _ (Array.getElem?_eq_getElem hlt)
   obtain⟨c1,c2⟩:=ht.ck (i+1) hi
   refine⟨c1,c2,fun d=>?_,fun l=>?_⟩
   ·rw[h.tm,zcN]
    by_cases e:ops[i].dst=some d
    ·rw[if_pos e,zbh (i:=i) hlt ⟨by omega,by rw[dstOf,Array.getElem?_eq_getElem hlt];exact e⟩ fun k h1 _ h2=>by omega,ih.len]
    ·rw[if_neg e,ih.tm]
     refine yq fun k hk=>?_
     refine and_congr_left fun hd=>?_
     have:k≠i:=fun q=>by subst q;rw[dstOf,Array.getElem?_eq_getElem hlt] at hd;exact e hd
     omega
   ·by_cases e:wl i=some l
    ·rw[zbh (i:=i) hlt ⟨by omega,e⟩ fun k h1 _ h2=>by omega]
    ·rw[h.frame e,ih.hp]
     refine yq fun k hk=>?_
     refine and_congr_left fun hd=>?_
     have:k≠i:=fun q=>by subst q;exact e hd
     omega
variable {L:Nat→Prop} {i:Nat}
structure Next (ops:Array Oper) (bef:Nat→Nat→Prop) (L:Nat→Prop) (i:Nat):Prop where
 lt:i < ops.size
 new:¬ L i
 prev:∀ j,bef i j→L j
 closed:∀ k,L k→∀ j,bef k j→L j
theorem agree_tm (hs:Stat ops bef un)(ht:Trace X ops un S vv rd wl){t:St}(ha:At ops S vv wl L t)(hn:Next ops bef L i){d:Nat}(h:∀ (j:Nat) (oj:Oper),ops[j]?=some oj→oj.dst=some d→bef i j∨bef j i∨j=i) :
 t.tm.getD d .top=(S i).tm.getD d .top:=by
 rw[ha.tm,(ht.text hs i (Nat.le_of_lt hn.lt)).tm]
 refine yq fun k hk=>and_congr_left fun hd=>?_
 rcases h k _ (Array.getElem?_eq_getElem hk) (by simpa [dstOf,hk] using hd) with q | q | q
 ·exact⟨fun _=>hs.lt i k q,fun _=>hn.prev k q⟩
 ·exact⟨fun q2=>absurd (hn.closed k q2 i q) hn.new,fun q2=>by have:=hs.lt k i q;omega⟩
 ·subst q
  exact⟨fun q=>absurd q hn.new,fun q=>by omega⟩
theorem zep (hs:Stat ops bef un)(ht:Trace X ops un S vv rd wl){t:St}(ha:At ops S vv wl L t)(hn:Next ops bef L i){l:Loc}(h:∀ j,j < ops.size→j≠i→wl j=some l→bef i j∨bef j i) :
 t.hp l=(S i).hp l:=by
 rw[ha.hp,(ht.text hs i (Nat.le_of_lt hn.lt)).hp]
 refine yq fun k hk=>and_congr_left fun hd=>?_
 by_cases e:k=i
 ·subst e
  exact⟨fun q=>absurd q hn.new,fun q=>by omega⟩
 ·rcases h k hk e hd with q | q
  ·exact⟨fun _=>hs.lt i k q,fun _=>hn.prev k q⟩
  ·exact⟨fun q2=>absurd (hn.closed k q2 i q) hn.new,fun q2=>by have:=hs.lt k i q;omega⟩
theorem Trace.free (hs:Stat ops bef un)(ht:Trace X ops un S vv rd wl){i j:Nat}(hi:i < ops.size)(hj:j < ops.size)(hne:j≠i):(bef i j∨bef j i)∨Apart (rd i) (wl i) (rd j) (wl j):=by
 rcases Nat.lt_or_gt_of_ne hne with h | h
 ·rcases hs.tot i j hi h with q | q
  ·exact .inl (.inl q)
  ·exact .inr (ht.apart i j hi h q)
 ·rcases hs.tot j i hj h with q | q
  ·exact .inl (.inr q)
  ·exact .inr (ht.apart j i hj h q).symm
theorem ziW (hs:Stat ops bef un)(ht:Trace X ops un S vv rd wl){t:St}(ha:At ops S vv wl L t)(hn:Next ops bef L i):Rd.ag (rd i) (S i).hp t.hp:=by
 cases hr:rd i with
 | locs ls =>
   intro l hl
   refine(zep hs ht ha hn fun j hj hne hw=>?_).symm
   rcases ht.free hs hn.lt hj hne with q | ⟨q,_,_⟩
   ·exact q
   ·rw[hr,hw] at q
    exact absurd hl q
 | cond p =>
   by_cases hp:p
   ·exact .inl hp
   ·refine .inr (funext fun l=>(zep hs ht ha hn fun j hj hne hw=>?_).symm)
    rcases ht.free hs hn.lt hj hne with q | ⟨q,_,_⟩
    ·exact q
    ·rw[hr,hw] at q
     exact absurd q hp
theorem ziV (hs:Stat ops bef un)(ht:Trace X ops un S vv rd wl){t:St}(ha:At ops S vv wl L t)(hn:Next ops bef L i){l:Loc}(hw:wl i=some l):t.hp l=(S i).hp l:=by
 refine zep hs ht ha hn fun j hj hne hw2=>?_
 rcases ht.free hs hn.lt hj hne with q | ⟨_,_,q⟩
 ·exact q
 ·rw[hw,hw2] at q
  exact absurd rfl q
theorem At.add (hs:Stat ops bef un)(ht:Trace X ops un S vv rd wl){t t':St}(ha:At ops S vv wl L t)(hn:Next ops bef L i){L':Nat→Prop}(hL:∀ k,L' k↔L k∨k=i){o:Oper}(ho:ops[i]?=some o)
 (hck:t'.ck=t.ck) (htm:t'.tm=putTm t.tm o.dst (vv i)) (hp1:∀ l,wl i≠some l→t'.hp l=t.hp l) (hp2:∀ l,wl i=some l→t'.hp l=(S (i+1)).hp l):At ops S vv wl L' t':=by
 refine⟨hck.trans ha.ck,by rw[htm,zaJ];exact ha.len,fun d=>?_,fun l=>?_⟩
 ·rw[htm,zcN]
  by_cases e:o.dst=some d
  ·rw[if_pos e,zbh (i:=i) hn.lt ⟨(hL i).2 (.inr rfl),by simp[dstOf,ho,e]⟩ fun k h1 h2 h3=>?_,ha.len]
   have hk:(ops[k]).dst=some d:=by simpa [dstOf,h2] using h3.2
   have:=hs.dst i k o ops[k] d ho (Array.getElem?_eq_getElem h2) e hk
   omega
  ·rw[if_neg e,ha.tm]
   refine yq fun k hk=>and_congr_left fun hd=>?_
   rw[hL]
   have:k≠i:=fun q=>by
    subst q
    simp[dstOf,ho] at hd
    exact e hd
   simp[this]
 ·by_cases e:wl i=some l
  ·rw[hp2 l e,zbh (i:=i) hn.lt ⟨(hL i).2 (.inr rfl),e⟩ fun k h1 h2 h3=>?_]
   have hLk:L k:=by
    rcases(hL k).1 h3.1 with q | q
    ·exact q
    ·omega
   rcases ht.free hs hn.lt h2 (by omega) with(q | q) | ⟨_,_,q⟩
   ·have:=hs.lt i k q;omega
   ·exact hn.new (hn.closed k hLk i q)
   ·rw[e,h3.2] at q
    exact q rfl
  ·rw[hp1 l e,ha.hp]
   refine yq fun k hk=>and_congr_left fun hd=>?_
   rw[hL]
   have:k≠i:=fun q=>by subst q;exact e hd
   simp[this]
theorem At.uniq {t t':St}(h:At ops S vv wl L t)(h':At ops S vv wl L t'):t=t':=by
 have h1:t.tm=t'.tm:=by
  apply List.ext_getElem
  ·rw[h.len,h'.len]
  ·intro d h1 h2
   have e:=(h.tm d).trans (h'.tm d).symm
   simpa [List.getD_eq_getElem?_getD,h1,h2] using e
 have h2:t.hp=t'.hp:=funext fun l=>(h.hp l).trans (h'.hp l).symm
 have h3:=h.ck.trans h'.ck.symm
 cases t;cases t'
 simp_all
theorem qB {s:St}{a:Act}{w:World}{k0:K}(hr:Rel k0 s a w){o:Oper}{b:Bool}(h:wantV ops s.tm o=some b):Region.wanted o (yielded ops a.tmps)=b:=by
 unfold wantV at h
 cases hg:o.guard with
 | none=>simp[hg] at h;simp[Region.wanted,hg,h]
 | some jw =>
   obtain⟨j,want⟩:=jw
   simp only[hg] at h
   cases hj:(ops[j]?).bind (·.dst) with
   | none=>simp[hj] at h
   | some d =>
     simp only[hj] at h
     cases hd:s.tm.getD d .top with
     | bool c =>
       simp only[hd,Option.some.injEq] at h
       obtain⟨_,ht⟩:=hr.setSlot hd
       have hy:yielded ops a.tmps j=some c:=by simp[yielded,hj,ht]
       simp only[Region.wanted,hg,hy]
       rw[← h]
       cases c <;> cases want <;> rfl
     | tup vs =>
       cases vs with
       | cons v vs=>rw[hd] at h;cases h
       | nil =>
         simp only[hd,Option.some.injEq] at h
         have hy:yielded ops a.tmps j=none:=by
          have:=hr.notBool hd
          unfold yielded
          rw[hj]
          split
          ·rename_i b hb;exact absurd hb (this b)
          ·rfl
         simp only[Region.wanted,hg,hy]
         rw[← h]
         cases want <;> rfl
     | _=>rw[hd] at h;cases h
theorem TStep.redo (hs:Stat ops bef un)(ht:Trace X ops un S vv rd wl){t:St}(ha:At ops S vv wl L t)(hn:Next ops bef L i){o:Oper}(ho:ops[i]?=some o) :
 (wantV ops t.tm o=some true∧∃ p hp',p∧opE X o t.ck t.hp (ev X t)=some (p,vv i,hp')∧(∀ l,wl i≠some l→hp' l=t.hp l)∧∀ l,wl i=some l→hp' l=(S (i+1)).hp l) ∨
 (wantV ops t.tm o=some false∧vv i=undefV∧wl i=none)∨(wantV ops t.tm o=some true∧ReadC X o t (vv i)∧wl i=none) ∨
 (wantV ops t.tm o=some true∧∃ L cs',wl i=some L∧(S (i+1)).hp L=some (.cells cs')∧WrC X o t L (vv i) cs'):=by
 have hT:=ht.step i o ho
 have hlook:∀ d∈o.looksAt ops,t.tm.getD d .top=(S i).tm.getD d .top:=fun d hd=>agree_tm hs ht ha hn fun j oj hj h2=>hs.temps i o ho d hd j oj hj h2
 have hev:∀ x∈o.op.operands,ev X (S i) x=ev X t x:=by
  intro x hx
  cases x with
  | tmp d=>exact(hlook d (by unfold Oper.looksAt;exact List.mem_append_left _ (List.mem_filterMap.2 ⟨.tmp d,by simpa using hx,rfl⟩))).symm
  | _=>rfl
 have hck:t.ck=(S i).ck:=ha.ck.trans ((ht.ck i (Nat.le_of_lt hn.lt)).1).symm
 have hwant:wantV ops t.tm o=wantV ops (S i).tm o:=by
  unfold wantV
  cases hg:o.guard with
  | none=>rfl
  | some jw =>
    obtain⟨j,want⟩:=jw
    simp only
    cases hj:(ops[j]?).bind (·.dst) with
    | none=>rfl
    | some d =>
      have:=hlook d (by simp[Oper.looksAt,hg,hj])
      simp only[this]
 rcases hT.act with⟨h1,h2,h3,p,hp,hE⟩ | ⟨h1,h2,h3,h4,h5⟩ | ⟨h1,h2,h3,h4,h5⟩ | ⟨h1,L,cs',h2,h3,h4,h5⟩
 ·refine .inl ⟨hwant.trans h1,?_⟩
  obtain⟨_,q⟩:=zan X o (S i).ck (ev X (S i)) (S i).hp p (vv i) (S (i+1)).hp hE
  obtain⟨hp',q1,q2⟩:=q t.hp (by rw[← h2];exact ziW hs ht ha hn) (fun l hl=>ziV hs ht ha hn (by rw[h3];exact hl))
  have hE2:opE X o t.ck t.hp (ev X t)=some (p,vv i,hp'):=by
   rw[hck,← opE_rho hev];exact q1
  refine⟨p,hp',hp,hE2,fun l hl=>?_,fun l hl=>q2 l (by rw[← h3];exact hl)⟩
  have q1':opE X o (S i).ck t.hp (ev X (S i))=some (p,vv i,hp'):=q1
  exact(zan X o (S i).ck (ev X (S i)) t.hp p (vv i) hp' q1').1 l (by rw[← h3];exact hl)
 ·exact .inr (.inl ⟨hwant.trans h1,h2,h5⟩)
 ·have hag:=ziW hs ht ha hn
  rw[h3] at hag
  have hhp:(S i).hp=t.hp:=hag.resolve_left id
  exact .inr (.inr (.inl ⟨hwant.trans h1,h5.move hck hhp.symm hev,h4⟩))
 ·exact .inr (.inr (.inr ⟨hwant.trans h1,L,cs',h3,by rw[h4,zd],h5.move hck (ziV hs ht ha hn h3) hev⟩))
end
theorem zng {i:Nat}:∀ {l:List Bool},l[i]?=some false→(l.set i true).count false+1=l.count false:=by
 induction i with
 | zero =>
   intro l h
   cases l with
   | nil=>simp at h
   | cons b l=>simp at h;subst h;simp
 | succ i ih =>
   intro l h
   cases l with
   | nil=>simp at h
   | cons b l =>
     simp only[List.getElem?_cons_succ] at h
     have:=ih h
     simp only[List.set_cons_succ,List.count_cons]
     omega
def LL (listed:Array Bool)(k:Nat):Prop:=listed.getD k false=true
theorem sim {X:Cx}(hX:X.Ok){ops:Array Oper}{bef:Nat→Nat→Prop}{un:Nat→Nat→Prop}{S:Nat→St}{vv:Nat→V}{rd:Nat→Rd}{wl:Nat→Option Loc}(hs:Stat ops bef un)(ht:Trace X ops un S vv rd wl)
 {Q:Exit→Act→World→Prop} (hQ:∀ a w,Rel X.k0 (S ops.size) a w→Q .normal a w):∀ (fuel:Nat) (listed:Array Bool) (t:St) (a:Act) (w:World),listed.size=ops.size→listed.toList.count false≤fuel →
  (∀ k,LL listed k→∀ o,ops[k]?=some o→∀ e∈o.after,Region.binds .any e=true→LL listed e.on)→At ops S vv wl (LL listed) t→Rel X.k0 t a w→wpAnyIn (WF X.r) 0 X.P .any ops Q fuel listed a w:=by
 intro fuel
 have hdone:∀ (listed:Array Bool) (t:St) (a:Act) (w:World),listed.size=ops.size→At ops S vv wl (LL listed) t→Rel X.k0 t a w→Region.ready .any ops listed=[]→Q .normal a w:=by
  intro listed t a w hsz ha hr hready
  have hall:∀ n k,k < n→k < ops.size→LL listed k:=by
   intro n
   induction n with
   | zero=>intro k hk;omega
   | succ n ih =>
     intro k hk hlt
     by_cases hl:LL listed k
     ·exact hl
     ·have hk':k < listed.size:=by omega
      have:k∈Region.ready .any ops listed:=mem_ready.2 ⟨by
       have:¬ listed.getD k false=true:=hl
       simpa [Array.getD_eq_getD_getElem?,hk'] using this,ops[k],Array.getElem?_eq_getElem hlt,fun e he hb=>ih e.on (by have:=hs.edge k _ (Array.getElem?_eq_getElem hlt) e he hb;omega) (by have:=hs.edge k _ (Array.getElem?_eq_getElem hlt) e he hb;omega)⟩
      rw[hready] at this
      cases this
  have ha2:At ops S vv wl (LL listed) (S ops.size):=by
   have:=ht.text hs ops.size (Nat.le_refl _)
   refine⟨this.ck,this.len,fun d=>(this.tm d).trans (yq fun k hk=>and_congr_left fun _=>⟨fun _=>hall _ k (Nat.lt_succ_self k) hk,fun _=>hk⟩),fun l=>(this.hp l).trans (yq fun k hk=>and_congr_left fun _=>⟨fun _=>hall _ k (Nat.lt_succ_self k) hk,fun _=>hk⟩)⟩
  exact hQ a w (ha.uniq ha2 ▸ hr)
 induction fuel with
 | zero =>
   intro listed t a w hsz hcnt hcl ha hr
   have hready:Region.ready .any ops listed=[]:=by
    apply List.eq_nil_iff_forall_not_mem.2
    intro k hk
    obtain⟨h1,o,ho,_⟩:=mem_ready.1 hk
    have hlt:k < listed.size:=by rw[hsz];exact(Array.getElem?_eq_some_iff.1 ho).1
    have:false∈listed.toList:=by
     rw[Array.mem_toList_iff]
     have h2:listed[k]=false:=by simpa [Array.getD_eq_getD_getElem?,hlt] using h1
     rw[← h2];exact Array.getElem_mem hlt
    have:=List.count_pos_iff.2 this
    omega
   exact⟨hready,hdone listed t a w hsz ha hr hready⟩
 | succ fuel ih =>
   intro listed t a w hsz hcnt hcl ha hr
   refine⟨fun hready=>hdone listed t a w hsz ha hr hready,fun i hi=>?_⟩
   obtain⟨h1,o,ho,hedges⟩:=mem_ready.1 hi
   have hlt:i < ops.size:=(Array.getElem?_eq_some_iff.1 ho).1
   have hlt':i < listed.size:=by omega
   have hclosed:∀ n k,k < n→LL listed k→∀ j,bef k j→LL listed j:=by
    intro n
    induction n with
    | zero=>intro k hk;omega
    | succ n ihn =>
      intro k hk hl j hb
      obtain⟨e,he,hbi,q⟩:=hs.step k j _ (Array.getElem?_eq_getElem (hs.size k j hb)) hb
      have hle:=hcl k hl _ (Array.getElem?_eq_getElem (hs.size k j hb)) e he hbi
      have hlt2:=hs.edge k _ (Array.getElem?_eq_getElem (hs.size k j hb)) e he hbi
      rcases q with q | q
      ·exact q ▸ hle
      ·exact ihn e.on (by omega) hle j q
   have hn:Next ops bef (LL listed) i:=by
    refine⟨hlt,?_,fun j hb=>?_,fun k hl j hb=>hclosed _ k (Nat.lt_succ_self k) hl j hb⟩
    ·intro q
     have:listed.getD i false=true:=q
     simp[Array.getD_eq_getD_getElem?,hlt'] at this h1
     rw[this] at h1;cases h1
    ·obtain⟨e,he,hbi,q⟩:=hs.step i j o ho hb
     have hle:LL listed e.on:=hedges e he hbi
     rcases q with q | q
     ·exact q ▸ hle
     ·exact hclosed _ e.on (Nat.lt_succ_self _) hle j q
   have hL:∀ k,LL (listed.setIfInBounds i true) k↔LL listed k∨k=i:=by
    intro k
    unfold LL
    simp only[Array.getD_eq_getD_getElem?,Array.getElem?_setIfInBounds]
    by_cases e:i=k
    ·subst e;simp[hlt']
    ·simp[e,Ne.symm e]
   have hnext:∀ (t':St) (a':Act) (w':World),At ops S vv wl (LL (listed.setIfInBounds i true)) t'→Rel X.k0 t' a' w'→wpAnyIn (WF X.r) 0 X.P .any ops Q fuel (listed.setIfInBounds i true) a' w':=by
    intro t' a' w' ha' hr'
    refine ih _ t' a' w' (by simpa using hsz) ?_ ?_ ha' hr'
    ·have:listed.toList[i]?=some false:=by
      simp[Array.getD_eq_getD_getElem?,hlt'] at h1
      simp[hlt',h1]
     have h3:=zng this
     rw[Array.toList_setIfInBounds]
     omega
    ·intro k hl o' ho' e he hb
     rw[hL] at hl ⊢
     rcases hl with hl | rfl
     ·exact .inl (hcl k hl o' ho' e he hb)
     ·rw[ho] at ho';cases ho'
      exact .inl (hedges e he hb)
   unfold wpOpIn
   simp only[ho]
   rcases TStep.redo hs ht ha hn ho with⟨hw,p,hp',hp,hE,f1,f2⟩ | ⟨hw,hv,hwl⟩ | ⟨hw,hR,hwl⟩ | ⟨hw,L,cs',hwl,hSL,hR⟩
   ·rw[if_pos (qB hr hw)]
    refine zeb hX (exOp_of (Kn:=fun s'=>s'=⟨t.ck,putTm t.tm o.dst (vv i),hp'⟩) hE hp rfl) a w hr _ _ fun s' a' w' hs' hr'=>?_
    subst hs'
    exact hnext ⟨t.ck,putTm t.tm o.dst (vv i),hp'⟩ a' w' (ha.add (t':=⟨t.ck,putTm t.tm o.dst (vv i),hp'⟩) hs ht hn hL ho rfl rfl f1 f2) hr'
   ·have hw':=qB hr hw
    rw[if_neg (by rw[hw'];simp)]
    refine⟨fun _ _=>trivial,?_⟩
    refine hnext ⟨t.ck,putTm t.tm o.dst undefV,t.hp⟩ _ w (ha.add (t':=⟨t.ck,putTm t.tm o.dst undefV,t.hp⟩) hs ht hn hL ho rfl (by rw[hv]) (fun _ _=>rfl) (fun l hl=>by rw[hwl] at hl;cases hl)) (hr.putUndef o.dst)
   ·rw[if_pos (qB hr hw)]
    refine read_ok hX hR a w hr _ _ fun s' a' w' hs' hr'=>?_
    subst hs'
    exact hnext ⟨t.ck,putTm t.tm o.dst (vv i),t.hp⟩ a' w' (ha.add (t':=⟨t.ck,putTm t.tm o.dst (vv i),t.hp⟩) hs ht hn hL ho rfl rfl (fun _ _=>rfl) (fun l hl=>by rw[hwl] at hl;cases hl)) hr'
   ·rw[if_pos (qB hr hw)]
    refine zkk hX hR a w hr _ _ fun s' a' w' hs' hr'=>?_
    subst hs'
    exact hnext ⟨t.ck,putTm t.tm o.dst (vv i),updH t.hp L (.cells cs')⟩ a' w' (ha.add (t':=⟨t.ck,putTm t.tm o.dst (vv i),updH t.hp L (.cells cs')⟩) hs ht hn hL ho rfl rfl (fun l hl=>zc fun q=>hl (by rw[hwl,q])) (fun l hl=>by rw[hwl] at hl;cases hl;rw[hSL];exact zd _ _ _)) hr'
end Go.Fly
end
section
namespace Go.Fly
open Go
def zcZ (ops:Array Oper):Bool :=
 let m:=ops.pop.size
 decide (ops.size=m+1) &&
 (match ops.back? with
  | some o=>o.guard.isNone && o.after.toList.all (fun e=>!Region.binds .any e || decide (e.on < m)) &&
   (List.range m).all fun j=>o.after.toList.any fun e=>Region.binds .any e && (e.on == j || ((Region.before ops.pop).toList.getD e.on 0).testBit j)
  | none=>false) &&
 ops.pop.toList.all fun o=>match o.guard with
  | none=>true
  | some (j,_)=>decide (j < m)
def upQ (rr:Option Nat)(md:Region.Mode)(P:Program)(ops:Array Oper)(m:Nat)(Q:Exit→Act→World→Prop):Exit→Act→World→Prop
 | .normal,a,w=>wpOpIn (WF rr) 0 P ops Q m (fun a w=>Q .normal a w) a w
 | e,a,w=>Q e a w
theorem Oper.wpIn_exits {F:Fence}{n:Nat}{P:Program}{o:Oper}{a:Act}{w:World}{next:Act→World→Prop}{Q Q':Exit→Act→World→Prop}(hQ:∀ e a w,e≠.normal→Q' e a w→Q e a w)
 (h:o.wpIn F n P a w next Q'):o.wpIn F n P a w next Q:=by
 unfold Oper.wpIn at *
 refine⟨h.1,?_⟩
 have hh:=h.2
 have hl:LetsOut Q'→LetsOut Q:=fun q=>by
  obtain⟨a,w,q⟩:=q
  exact⟨a,w,hQ _ _ _ (by simp) q⟩
 generalize (o.semAt F.round a.eval).run P w=r at *
 cases r with
 | ok x w' =>
   cases x <;> simp only[Oper.uponIn] at hh ⊢ <;>
    first
     | exact hh
     | exact⟨hh.1,CallsIn.mono hh.2 (fun e w'' he=>by cases e <;> first | exact he | exact hQ _ _ _ (by simp) he | exact hl he)⟩
     | exact⟨hh.1,RoundIn.mono hh.2 (fun e w'' he=>by cases e <;> first | exact he | exact hQ _ _ _ (by simp) he | exact hl he)⟩
 | halt x w'=>cases x <;> simp only[Oper.uponIn] at hh ⊢ <;> first | exact hh | exact hQ _ _ _ (by simp) hh
theorem zdL {ops:Array Oper}{i:Nat}(h:i < ops.pop.size):ops.pop[i]?=ops[i]?:=by
 have:i < ops.size - 1:=by simpa using h
 rw[Array.getElem?_eq_getElem h,Array.getElem?_eq_getElem (by omega)]
 simp
theorem ziZ {rr:Option Nat}{P:Program}{ops:Array Oper}{Q:Exit→Act→World→Prop}{m:Nat}{i:Nat}(hm:m=ops.pop.size)(hi:i < m)(hg:∀ (o:Oper) (j:Nat) (b:Bool),ops.pop[i]?=some o→o.guard=some (j,b)→j < m)
 {K K':Act→World→Prop} (hK:∀ a w,K' a w→K a w) {a:Act} {w:World} (h:wpOpIn (WF rr) 0 P ops.pop (upQ rr .any P ops m Q) i K' a w):wpOpIn (WF rr) 0 P ops Q i K a w:=by
 have e:=zdL (ops:=ops) (i:=i) (by omega)
 unfold wpOpIn at *
 rw[e] at h
 have hx:∀ e' a' w',e'≠Exit.normal→upQ rr .any P ops m Q e' a' w'→Q e' a' w':=fun e' a' w' hne q=>by
  cases e' <;> first | exact absurd rfl hne | exact q
 cases ho:ops[i]? with
 | none=>simp only[ho] at h ⊢;exact hK _ _ h
 | some o =>
   simp only[ho] at h ⊢
   have hw:Region.wanted o (yielded ops.pop a.tmps)=Region.wanted o (yielded ops a.tmps):=by
    unfold Region.wanted
    cases hgd:o.guard with
    | none=>rfl
    | some jw =>
      obtain⟨j,b⟩:=jw
      have:=hg o j b (e.trans ho) hgd
      simp only[yielded,zdL (ops:=ops) (i:=j) (by omega)]
   rw[hw] at h
   split
   ·rename_i q
    rw[if_pos q] at h
    exact Oper.wpIn_exits hx (Oper.wpIn_mono hK h)
   ·rename_i q
    rw[if_neg q] at h
    exact⟨h.1,hK _ _ h.2⟩
def ziY (ops:Array Oper)(listed:Array Bool):Prop:=∀ k,LL listed k→∀ o,ops[k]?=some o→∀ e∈o.after,Region.binds .any e=true→LL listed e.on
theorem zcs {ops:Array Oper}{bef:Nat→Nat→Prop}{un:Nat→Nat→Prop}(hs:Stat ops bef un){listed:Array Bool}(hsz:listed.size=ops.size)(hready:Region.ready .any ops listed=[]):∀ n k,k < n→k < ops.size→LL listed k:=by
 intro n
 induction n with
 | zero=>intro k hk;omega
 | succ n ih =>
   intro k hk hlt
   by_cases hl:LL listed k
   ·exact hl
   ·have hk':k < listed.size:=by omega
    have:k∈Region.ready .any ops listed:=mem_ready.2 ⟨by
     have:¬ listed.getD k false=true:=hl
     simpa [Array.getD_eq_getD_getElem?,hk'] using this,ops[k],Array.getElem?_eq_getElem hlt,fun e he hb=>ih e.on (by have:=hs.edge k _ (Array.getElem?_eq_getElem hlt) e he hb;omega) (by have:=hs.edge k _ (Array.getElem?_eq_getElem hlt) e he hb;omega)⟩
    rw[hready] at this
    cases this
theorem zk7 {ops:Array Oper}{bef:Nat→Nat→Prop}{un:Nat→Nat→Prop}(hs:Stat ops bef un){listed:Array Bool}(hcl:ziY ops listed):∀ n k,k < n→LL listed k→∀ j,bef k j→LL listed j:=by
 intro n
 induction n with
 | zero=>intro k hk;omega
 | succ n ihn =>
   intro k hk hl j hb
   obtain⟨e,he,hbi,q⟩:=hs.step k j _ (Array.getElem?_eq_getElem (hs.size k j hb)) hb
   have hle:=hcl k hl _ (Array.getElem?_eq_getElem (hs.size k j hb)) e he hbi
   have hlt2:=hs.edge k _ (Array.getElem?_eq_getElem (hs.size k j hb)) e he hbi
   rcases q with q | q
   ·exact q ▸ hle
   ·exact ihn e.on (by omega) hle j q
theorem zhh {listed:Array Bool}{k:Nat}:LL (listed.push false) k↔LL listed k:=by
 unfold LL
 simp only[Array.getD_eq_getD_getElem?,Array.getElem?_push]
 by_cases h:k=listed.size
 ·subst h;simp
 ·simp[h]
theorem zj0 {rr:Option Nat}{P:Program}{ops:Array Oper}{Q:Exit→Act→World→Prop}{m:Nat}{bef un:Nat→Nat→Prop}(hs:Stat ops.pop bef un)(hm:m=ops.pop.size)(hsz:ops.size=m+1)
 (hg:∀ (i:Nat) (o:Oper) (j:Nat) (b:Bool),ops.pop[i]?=some o→o.guard=some (j,b)→j < m) {o:Oper} (ho:ops[m]?=some o) (he:∀ e∈o.after,Region.binds .any e=true→e.on < m)
 (hall:∀ j,j < m→∃ e∈o.after,Region.binds .any e=true∧(e.on=j∨bef e.on j)):∀ (fuel:Nat) (listed:Array Bool) (a:Act) (w:World),listed.size=m→ziY ops.pop listed →
  wpAnyIn (WF rr) 0 P .any ops.pop (upQ rr .any P ops m Q) fuel listed a w→wpAnyIn (WF rr) 0 P .any ops Q (fuel+1) (listed.push false) a w:=by
 -- the last one comes up exactly when all others are listed
 have hlast:∀ listed:Array Bool,listed.size=m→ziY ops.pop listed→(m∈Region.ready .any ops (listed.push false)↔∀ j,j < m→LL listed j):=by
  intro listed hl hcl
  rw[mem_ready]
  constructor
  ·rintro⟨_,o',ho',h⟩ j hj
   rw[ho] at ho'
   cases ho'
   obtain⟨e,h1,h2,h3⟩:=hall j hj
   have hle:LL listed e.on:=zhh.1 (h e h1 h2)
   rcases h3 with q | q
   ·exact q ▸ hle
   ·exact zk7 hs hcl _ e.on (Nat.lt_succ_self _) hle j q
  ·intro h
   refine⟨by simp[Array.getD_eq_getD_getElem?,← hl],o,ho,fun e h1 h2=>zhh.2 (h e.on (he e h1 h2))⟩
 have hother:∀ (listed:Array Bool) (i:Nat),listed.size=m→i < m→(i∈Region.ready .any ops (listed.push false)↔i∈Region.ready .any ops.pop listed):=by
  intro listed i hl hi
  rw[mem_ready,mem_ready,zdL (by omega)]
  have e1:(listed.push false).getD i true=listed.getD i true:=by
   simp only[Array.getD_eq_getD_getElem?]
   rw[Array.getElem?_push_lt (by omega),Array.getElem?_eq_getElem (by omega)]
  rw[e1]
  refine and_congr_right fun _=>exists_congr fun o'=>and_congr_right fun _=>?_
  exact forall_congr' fun e=>forall_congr' fun _=>forall_congr' fun _=>zhh
 have hin:∀ (listed:Array Bool) (i:Nat),listed.size=m→i∈Region.ready .any ops (listed.push false)→i < m∨i=m:=by
  intro listed i hl h
  obtain⟨_,o',ho',_⟩:=mem_ready.1 h
  have:=(Array.getElem?_eq_some_iff.1 ho').1
  omega
 -- all listed
 have hdone:∀ (fuel:Nat) (listed:Array Bool) (a:Act) (w:World),listed.size=m→(∀ j,j < m→LL listed j)→Q .normal a w→wpAnyIn (WF rr) 0 P .any ops Q fuel ((listed.push false).setIfInBounds m true) a w:=by
  intro fuel listed a w hl h hq
  have hr:Region.ready .any ops ((listed.push false).setIfInBounds m true)=[]:=by
   apply List.eq_nil_iff_forall_not_mem.2
   intro i hi
   obtain⟨h1,o',ho',_⟩:=mem_ready.1 hi
   have hlt:=(Array.getElem?_eq_some_iff.1 ho').1
   by_cases e:i=m
   ·subst e
    simp[Array.getD_eq_getD_getElem?,hl] at h1
   ·have hi':i < listed.size:=by omega
    have h2:=h i (by omega)
    unfold LL at h2
    simp[Array.getD_eq_getD_getElem?,hi'] at h2
    simp[Array.getD_eq_getD_getElem?,Array.getElem?_setIfInBounds,Ne.symm e,Array.getElem?_push_lt hi'] at h1
    rw[h2] at h1
    cases h1
  cases fuel with
  | zero=>exact⟨hr,hq⟩
  | succ fuel=>exact⟨fun _=>hq,fun i hi=>by rw[hr] at hi;cases hi⟩
 have hfin:∀ (fuel:Nat) (listed:Array Bool) (a:Act) (w:World),listed.size=m→ziY ops.pop listed→(∀ j,j < m→LL listed j)→upQ rr .any P ops m Q .normal a w→wpAnyIn (WF rr) 0 P .any ops Q (fuel+1) (listed.push false) a w:=by
  intro fuel listed a w hl hcl hA hq
  refine⟨fun hr=>?_,fun i hi=>?_⟩
  ·have:=(hlast listed hl hcl).2 hA
   rw[hr] at this;cases this
  ·rcases hin listed i hl hi with q | q
   ·have h2:=(mem_ready.1 ((hother listed i hl q).1 hi)).1
    have h3:=hA i q
    unfold LL at h3
    simp[Array.getD_eq_getD_getElem?,show i < listed.size by omega] at h2 h3
    rw[h3] at h2;cases h2
   ·subst q
    exact wpOpIn_mono (fun a w q=>hdone fuel listed a w hl hA q) hq
 intro fuel
 induction fuel with
 | zero =>
   intro listed a w hl hcl h
   exact hfin 0 listed a w hl hcl (fun j hj=>zcs hs (by omega) h.1 _ j (Nat.lt_succ_self j) (by omega)) h.2
 | succ fuel ih =>
   intro listed a w hl hcl h
   by_cases hr:Region.ready .any ops.pop listed=[]
   ·exact hfin (fuel+1) listed a w hl hcl (fun j hj=>zcs hs (by omega) hr _ j (Nat.lt_succ_self j) (by omega)) (h.1 hr)
   ·refine⟨fun hr2=>?_,fun i hi=>?_⟩
    ·obtain⟨i,hi⟩:=List.exists_mem_of_ne_nil _ hr
     have hlt:i < m:=by
      obtain⟨_,o',ho',_⟩:=mem_ready.1 hi
      have:=(Array.getElem?_eq_some_iff.1 ho').1
      omega
     have:=(hother listed i hl hlt).2 hi
     rw[hr2] at this;cases this
    ·rcases hin listed i hl hi with q | q
     ·have hi':=(hother listed i hl q).1 hi
      refine ziZ (rr:=rr) hm q (fun o' j b h1 h2=>hg i o' j b h1 h2) (fun a' w' h'=>?_) (h.2 i hi')
      have e:(listed.push false).setIfInBounds i true=(listed.setIfInBounds i true).push false:=by
       apply Array.ext_getElem?
       intro k
       have hil:i < listed.size:=by omega
       rw[Array.getElem?_setIfInBounds,Array.getElem?_push,Array.getElem?_push,Array.size_setIfInBounds,Array.getElem?_setIfInBounds]
       by_cases e1:i=k
       ·subst e1
        simp[show ¬ i=listed.size by omega,hil,show i < listed.size+1 by omega]
       ·simp[e1]
      rw[e]
      refine ih _ a' w' (by simpa using hl) ?_ h'
      intro k hk o' ho' e' he' hb'
      have hL:∀ k,LL (listed.setIfInBounds i true) k↔LL listed k∨k=i:=by
       intro k
       unfold LL
       simp only[Array.getD_eq_getD_getElem?,Array.getElem?_setIfInBounds]
       by_cases e:i=k
       ·subst e;simp[show i < listed.size by omega]
       ·simp[e,Ne.symm e]
      rw[hL] at hk ⊢
      rcases hk with hk | rfl
      ·exact .inl (hcl k hk o' ho' e' he' hb')
      ·obtain⟨_,o2,ho2,h2⟩:=mem_ready.1 hi'
       rw[ho'] at ho2;cases ho2
       exact .inl (h2 e' he' hb')
     ·subst q
      exact absurd (fun j hj=>(hlast listed hl hcl).1 hi j hj) fun hA=>hr (by
       apply List.eq_nil_iff_forall_not_mem.2
       intro k hk
       obtain⟨h1,o',ho',_⟩:=mem_ready.1 hk
       have hlt:=(Array.getElem?_eq_some_iff.1 ho').1
       have h3:=hA k (by omega)
       unfold LL at h3
       simp[Array.getD_eq_getD_getElem?,show k < listed.size by omega] at h1 h3
       rw[h3] at h1;cases h1)
theorem zcZ.spec {ops:Array Oper}(h:zcZ ops=true):ops.size=ops.pop.size+1∧∃ o,ops.back?=some o∧ops[ops.pop.size]?=some o∧o.guard=none∧(∀ e∈o.after,Region.binds .any e=true→e.on < ops.pop.size) ∧
 (∀ j,j < ops.pop.size→∃ e∈o.after,Region.binds .any e=true∧(e.on=j∨(e.on < ops.pop.size∧j < ops.pop.size∧((Region.before ops.pop).toList.getD e.on 0).testBit j=true))) ∧
 ∀ (i:Nat) (o:Oper) (j:Nat) (b:Bool),ops.pop[i]?=some o→o.guard=some (j,b)→j < ops.pop.size:=by
 unfold zcZ at h
 simp only[Bool.and_eq_true,decide_eq_true_eq] at h
 obtain⟨⟨h1,h2⟩,h3⟩:=h
 refine⟨h1,?_⟩
 cases hb:ops.back? with
 | none=>rw[hb] at h2;cases h2
 | some o =>
   rw[hb] at h2
   simp only[Bool.and_eq_true] at h2
   obtain⟨⟨g0,g1⟩,g2⟩:=h2
   have he:∀ e∈o.after,Region.binds .any e=true→e.on < ops.pop.size:=fun e he hbi=>by
    have:=List.all_eq_true.1 g1 e (Array.mem_toList_iff.2 he)
    simpa [hbi] using this
   refine⟨o,rfl,?_,by simpa using g0,he,fun j hj=>?_,fun i o' j b hi hgd=>?_⟩
   ·rw[Array.back?_eq_getElem?] at hb
    rw[← hb];congr 1;omega
   ·have:=List.all_eq_true.1 g2 j (List.mem_range.2 hj)
    obtain⟨e,he1,h5⟩:=List.any_eq_true.1 this
    simp only[Bool.and_eq_true,Bool.or_eq_true,beq_iff_eq] at h5
    have he1:=Array.mem_toList_iff.1 he1
    exact⟨e,he1,h5.1,h5.2.imp id fun q=>⟨he e he1 h5.1,hj,q⟩⟩
   ·have:=List.all_eq_true.1 h3 o' (by
     rw[Array.mem_toList_iff]
     exact Array.mem_of_getElem? hi)
    simpa [hgd] using this
theorem zg8 {X:Cx}(hX:X.Ok){ops:Array Oper}{tab:List (List Nat)}(hst:zbz ops (Region.before ops).toList tab=true)(htab:tab.length=ops.size){s:St}{Kn:St→Prop}{Q0:Exit→Act→World→Prop}
 (h:exD X ops (ops.toList.zip tab) 0 s [] Kn) (hQ:∀ s' a w,Kn s'→Rel X.k0 s' a w→Q0 .normal a w) {a:Act} {w:World} (hrel:Rel X.k0 s a w):wpAnyIn (WF X.r) 0 X.P .any ops Q0 ops.size (Array.replicate ops.size false) a w:=by
 obtain⟨S,vv,rd,wl,h1,h2,h3⟩:=zfL _ _ _ _ h
 have hs:=zbz.spec hst
 have hlen:(ops.toList.zip tab).length=ops.size:=by simp[htab]
 have hq:∀ i,i < ops.size→qk ops.toList i=true→TStep X ops ops[i]! (S i) (S (i+1)) (vv i) (rd i) (wl i)→rd i=.locs []∧wl i=none:=by
  intro i hi hqi hT
  have:qT ops[i]! = true:=by
   unfold qk at hqi
   have e:ops.toList[i]?=some ops[i]! := by simp[hi]
   rw[e] at hqi;exact hqi
  rcases hT.act with⟨_,h1,h2,_⟩ | ⟨_,_,_,h1,h2⟩ | ⟨_,_,_,_,h5⟩ | ⟨_,_,_,_,_,_,h5⟩
  ·rw[h1,h2];exact qT.spec this _ _
  ·exact⟨h1,h2⟩
  ·rw[h5.loud] at this;cases this
  ·rw[h5.loud] at this;cases this
 have ht:Trace X ops (fun i j=>j∈tab.getD i []∨qk ops.toList i=true∨qk ops.toList j=true) S vv rd wl:=by
  have get:∀ i o,ops[i]?=some o→(ops.toList.zip tab)[i]?=some (o,tab.getD i []):=by
   intro i o ho
   have hi:i < ops.size:=(Array.getElem?_eq_some_iff.1 ho).1
   rw[List.getElem?_zip_eq_some]
   refine⟨by simpa using ho,?_⟩
   simp[List.getD_eq_getElem?_getD,show i < tab.length by omega]
  refine⟨fun i o ho=>by simpa using (h3 i o _ (get i o ho)).1,fun i j hi hj hu=>?_⟩
  have hst:∀ k,k < ops.size→TStep X ops ops[k]! (S k) (S (k+1)) (vv k) (rd k) (wl k):=fun k hk=>by
   have:=(h3 k ops[k]! _ (get k _ (by simp[hk]))).1
   simpa using this
  rcases hu with hu | hu | hu
  ·have:=(h3 i ops[i] _ (get i _ (Array.getElem?_eq_getElem hi))).2.2 j (Nat.zero_le _) (by omega) hu
   simpa using this
  ·obtain⟨e1,e2⟩:=hq i hi hu (hst i hi)
   rw[e1,e2];exact Apart.quiet_left
  ·obtain⟨e1,e2⟩:=hq j (by omega) hu (hst j (by omega))
   rw[e1,e2];exact Apart.quiet_left.symm
 have hno:∀ k,¬ LL (Array.replicate ops.size false) k:=by
  intro k hk
  have:(Array.replicate ops.size false).getD k false=true:=hk
  simp[Array.getD_eq_getD_getElem?,Array.getElem?_replicate] at this
  split at this <;> simp at this
 refine sim hX hs ht (Q:=Q0) (fun a' w' hr'=>hQ _ a' w' (by rw[Nat.zero_add,hlen] at h2;exact h2) hr') ops.size (Array.replicate ops.size false) (S 0) a _ (by simp) ?_ ?_ ?_ ?_
 ·simp
 ·exact fun k hk=>absurd hk (hno k)
 ·refine⟨rfl,rfl,fun d=>?_,fun l=>?_⟩
  ·rw[ju (m:=0) (Nat.zero_le _) fun k _ _ h=>hno k h.1];rfl
  ·rw[ju (m:=0) (Nat.zero_le _) fun k _ _ h=>hno k h.1];rfl
 ·rw[h1];exact hrel
theorem zmM {X:Cx}{ops:Array Oper}{Kn Kn':St→Prop}(hK:∀ s,Kn s→Kn' s):∀ (l:List (Oper×List Nat)) (i:Nat) (s:St) (log:List kv),(∀ p∈l,∀ j b,p.1.guard=some (j,b)→j < ops.pop.size)→exD X ops l i s log Kn→exD X ops.pop l i s log Kn'
 | [],i,s,log,_,h=>by unfold exD at h ⊢;exact hK _ h
 | (o,un)::rest,i,s,log,hg,h=>by
   have ih:=fun(i:Nat) (s:St) (log:List kv)=>zmM (X:=X) (ops:=ops) hK rest i s log fun p hp=>hg p (List.mem_cons_of_mem _ hp)
   have hs:∀ s1,zby X o un i log (fun s' log'=>exD X ops rest (i+1) s' log' Kn) s1→zby X o un i log (fun s' log'=>exD X ops.pop rest (i+1) s' log' Kn') s1:=fun s1 q=>by
    unfold zby at q ⊢
    cases hE:opE X o s1.ck s1.hp (ev X s1) with
    | none =>
      rw[hE] at q
      by_cases hw:isWr X o.dst=true
      ·simp only[if_pos hw] at q ⊢
       obtain⟨L,v,cs',q1,q2,q3⟩:=q
       exact⟨L,v,cs',q1,q2,ih _ _ _ q3⟩
      simp only[if_neg hw] at q ⊢
      obtain⟨q1,v,q2,q3⟩:=q
      exact⟨q1,v,q2,ih _ _ _ q3⟩
    | some r =>
      obtain⟨p,v,hp'⟩:=r
      rw[hE] at q
      exact⟨q.1,q.2.1,ih _ _ _ q.2.2⟩
   unfold exD at h ⊢
   cases hgd:o.guard with
   | none=>simp only[hgd] at h ⊢;exact hs _ h
   | some jw =>
     obtain⟨j,want⟩:=jw
     simp only[hgd] at h ⊢
     rw[zdL (hg (o,un) (List.mem_cons_self ..) j want hgd)]
     cases hd:(ops[j]?).bind (·.dst) with
     | none=>rw[hd] at h;exact h
     | some d =>
       simp only[hd] at h ⊢
       cases hv:s.tm.getD d .top with
       | bool b=>simp only[hv] at h ⊢;exact⟨fun q=>hs _ (h.1 q),fun q=>ih _ _ _ (h.2 q)⟩
       | tup vs =>
         cases vs with
         | cons v vs=>rw[hv] at h;exact h.elim
         | nil=>simp only[hv] at h ⊢;exact ih _ _ _ h
       | _=>rw[hv] at h;exact h.elim
def regS:Nat→Array Oper→List (List Nat)→Bool
 | 0,ops,tab=>zbz ops (Region.before ops).toList tab && tab.length == ops.size
 | k+1,ops,tab=>regS k ops.pop tab && zbz ops.pop (Region.before ops.pop).toList (tab++List.replicate k []) && zcZ ops
noncomputable def exS (X:Cx):Nat→Array Oper→List (List Nat)→St→(St→Prop)→Prop
 | 0,ops,tab,s,Kn=>exD X ops (ops.toList.zip tab) 0 s [] Kn
 | k+1,ops,tab,s,Kn=>exS X k ops.pop tab s (fun s'=>∀ o,ops.back?=some o→yD X o s' Kn)
theorem zdk {X:Cx}(hX:X.Ok):∀ (k:Nat) {ops:Array Oper} {tab:List (List Nat)} {s:St} {Kn:St→Prop} {Q0:Exit→Act→World→Prop},regS k ops tab=true→exS X k ops tab s Kn →
 (∀ s' a w,Kn s'→Rel X.k0 s' a w→Q0 .normal a w)→∀ {a:Act} {w:World},Rel X.k0 s a w→wpAnyIn (WF X.r) 0 X.P .any ops Q0 ops.size (Array.replicate ops.size false) a w
 | 0,ops,tab,s,Kn,Q0,hr,h,hQ,a,w,hrel=>by
   unfold regS at hr
   simp only[Bool.and_eq_true,beq_iff_eq] at hr
   unfold exS at h
   exact zg8 hX hr.1 hr.2 h hQ hrel
 | k+1,ops,tab,s,Kn,Q0,hr,h,hQ,a,w,hrel=>by
   unfold regS at hr
   simp only[Bool.and_eq_true] at hr
   obtain⟨⟨g1,g2⟩,g3⟩:=hr
   unfold exS at h
   obtain⟨h0,o,hb,ho,hgn,he,hall,hg⟩:=zcZ.spec g3
   have hs:=zbz.spec g2
   have ih:=zdk hX k (Q0:=upQ X.r .any X.P ops ops.pop.size Q0) g1 h (fun s' a' w' hK hr'=>by
    unfold upQ wpOpIn
    rw[ho]
    simp only[Region.wanted,hgn,if_true]
    exact zeb hX (hK o hb) a' w' hr' (fun a2 w2=>Q0 .normal a2 w2) Q0 fun s2 a2 w2 q1 q2=>hQ s2 a2 w2 q1 q2) hrel
   have erep:Array.replicate ops.size false=(Array.replicate ops.pop.size false).push false:=by rw[h0,Array.replicate_succ]
   have hno:∀ k,¬ LL (Array.replicate ops.pop.size false) k:=by
    intro k hk
    have:(Array.replicate ops.pop.size false).getD k false=true:=hk
    simp only[Array.getD_eq_getD_getElem?,Array.getElem?_replicate] at this
    split at this <;> simp at this
   rw[erep,show ops.size=ops.pop.size+1 from h0]
   exact zj0 hs rfl h0 hg ho he hall _ _ _ _ (by simp) (fun k hk=>absurd hk (hno k)) ih
def vw:List Oper→List (List Nat)→List Oper
 | l,[]=>l
 | [],_::_=>[]
 | _::l,_::t=>vw l t
theorem zaF:∀ (l:List Oper) (t:List (List Nat)),vw l t=l.drop t.length
 | l,[]=>by simp[vw]
 | [],_::_=>by simp[vw]
 | _::l,_::t=>by simp[vw,zaF l t]
noncomputable def exT (X:Cx):List Oper→St→(St→Prop)→Prop
 | [],s,Kn=>Kn s
 | o::l,s,Kn=>yD X o s (fun s'=>exT X l s' Kn)
theorem ziG {X:Cx}{Kn:St→Prop}{o:Oper}:∀ (l:List Oper) (s:St),exT X (l++[o]) s Kn=exT X l s (fun s'=>yD X o s' Kn)
 | [],s=>rfl
 | p::l,s=>by
   show yD X p s _=yD X p s _
   congr 1
   funext s'
   exact ziG l s'
theorem zip_pop {ops:Array Oper}{t:List (List Nat)}(h:t.length≤ops.pop.size):ops.toList.zip t=ops.pop.toList.zip t:=by
 have key:∀ (l:List Oper) (t:List (List Nat)) (n:Nat),t.length≤n→l.zip t=(l.take n).zip t:=by
  intro l
  induction l with
  | nil=>intro t n _;simp
  | cons x l ih =>
    intro t n hn
    cases t with
    | nil=>simp
    | cons y t =>
      obtain⟨n,rfl⟩:∃ m,n=m+1:=⟨n - 1,by simp at hn;omega⟩
      simp only[List.zip_cons_cons,List.take_succ_cons]
      rw[ih t n (by simpa using hn)]
 rw[Array.toList_pop,List.dropLast_eq_take]
 refine key _ _ _ ?_
 simpa using h
theorem exS_of {X:Cx}:∀ (k:Nat) {ops:Array Oper} {tab:List (List Nat)} {s:St} {Kn:St→Prop} {B L:List Oper},regS k ops tab=true→ops.toList=B++L→L.length=k→B.length=tab.length →
 exD X ops (ops.toList.zip tab) 0 s [] (fun s'=>exT X L s' Kn)→exS X k ops tab s Kn
 | 0,ops,tab,s,Kn,B,L,hr,hL,hk,hB,h=>by
   obtain rfl:L=[]:=List.eq_nil_of_length_eq_zero hk
   exact h
 | k+1,ops,tab,s,Kn,B,L,hr,hL,hk,hB,h=>by
   unfold regS at hr
   simp only[Bool.and_eq_true] at hr
   obtain⟨⟨g1,g2⟩,g3⟩:=hr
   obtain⟨h0,o,hb,ho,hgn,he,hall,hg⟩:=zcZ.spec g3
   obtain⟨L',p,rfl⟩:∃ L' p,L=L'++[p]:=by
    rcases List.eq_nil_or_concat L with q | ⟨L',p,q⟩
    ·rw[q] at hk;simp at hk
    ·exact⟨L',p,by rw[q,List.concat_eq_append]⟩
   have hpo:p=o:=by
    have:ops.toList.getLast?=some p:=by rw[hL];simp
    rw[Array.back?_eq_getElem?] at hb
    rw[List.getLast?_eq_getElem?] at this
    simp only[Array.getElem?_toList,Array.length_toList] at this
    rw[hb] at this
    exact(Option.some.inj this).symm
   subst hpo
   have hpl:ops.pop.toList=B++L':=by rw[Array.toList_pop,hL,← List.append_assoc,List.dropLast_concat]
   have hkl:L'.length=k:=by simpa using hk
   have hle:tab.length≤ops.pop.size:=by
    have:=congrArg List.length hpl
    simp at this
    rw[Array.size_pop]
    omega
   unfold exS
   refine exS_of k (B:=B) (L:=L') g1 hpl hkl hB ?_
   rw[zip_pop hle] at h
   refine zmM (fun s' q=>?_) _ _ _ _ (fun q hq j b hgd=>?_) h
   ·rw[ziG] at q
    have e:(fun s'=>∀ o,ops.back?=some o→yD X o s' Kn)=fun s'=>yD X p s' Kn:=by
     funext s'
     rw[hb]
     simp
    rw[e]
    exact q
   ·obtain⟨hp1,_⟩:=List.of_mem_zip hq
    obtain⟨i,hi⟩:=List.mem_iff_getElem?.1 hp1
    exact hg i q.1 j b (by rw[Array.getElem?_toList] at hi;exact hi) hgd
noncomputable def exR (X:Cx) (ops:Array Oper) (tab:List (List Nat)) (s:St) (Kn:St→Prop):Prop :=
 match tab with
 | (_::_)::t=>exD X ops (ops.toList.zip t) 0 s [] (fun s'=>exT X (vw ops.toList t) s' Kn)
 | t=>exD X ops (ops.toList.zip t) 0 s [] Kn
def regOk (ops:Array Oper)(tab:List (List Nat)):Bool :=
 match tab with
 | (n::_)::t=>regS n ops t && t.length+n == ops.size
 | t=>regS 0 ops t
theorem T.any {X:Cx}(hX:X.Ok)(hm:X.P.follows .mixedOrders=true){id:Nat}{ops:Array Oper}{tab:List (List Nat)}(hok:regOk ops tab=true){s:St}{Q:Exit→St→Prop}
 (h:exR X ops tab ⟨s.ck+1,s.tm,s.hp⟩ (Q .normal)):T X (.region id ops true) s Q:=by
 intro a w hrel
 have hrel1:Rel X.k0 ⟨s.ck+1,s.tm,s.hp⟩ a { w with drawn:=w.drawn+1 }:=by
  obtain⟨M,B,g1,g2,g3,g4⟩:=hrel.tick
  obtain⟨d1,d2⟩:=zay g2
  exact⟨M,B,g1.trans d1,d2,g3.step d1 fun b hb=>(g2.own b hb).1,g4.step d1⟩
 refine wpIn_region_any hm ?_
 have hQ:∀ s' a w,Q .normal s'→Rel X.k0 s' a w→(fun(e:Exit) (a':Act) (w':World)=>∃ s',Q e s'∧Rel X.k0 s' a' w') .normal a w:=fun s' a w q1 q2=>⟨s',q1,q2⟩
 unfold regOk at hok
 split at hok
 ·rename_i n l t
  simp only[Bool.and_eq_true,beq_iff_eq] at hok
  have h:exD X ops (ops.toList.zip t) 0 ⟨s.ck+1,s.tm,s.hp⟩ [] (fun s'=>exT X (vw ops.toList t) s' (Q .normal)):=h
  rw[zaF] at h
  refine zdk hX n hok.1 (exS_of n (B:=ops.toList.take t.length) (L:=ops.toList.drop t.length) hok.1 (List.take_append_drop _ _).symm ?_ ?_ h) hQ hrel1
  ·have:=hok.2;simp;omega
  ·have:=hok.2;simp;omega
 ·rename_i hne
  have h':exS X 0 ops tab ⟨s.ck+1,s.tm,s.hp⟩ (Q .normal):=by
   unfold exR at h
   split at h
   ·exact(hne _ _ _ rfl).elim
   ·exact h
  exact zdk hX 0 hok h' hQ hrel1
end Go.Fly
end
