/- Part of a proof. No conditions. -/
import Derived.Test.YtkfbgillhhhdgaaGreatDoorAC
import Derived.Laws.RangeString
set_option linter.unusedSimpArgs false
set_option linter.unusedVariables false
section
namespace Go.Fly
open Go
def zdY (P:Program)(hp:Heap)(t:TypeId)(x:V):Option (Prop×V) :=
 match P.underlying t,x with
 | some .string,.str s=>some (True,.int .i64 s.length)
 | some (.slice _),.sl n _ _=>some (True,.int .i64 n)
 | some (.slice _),.nils=>some (True,.int .i64 0)
 | some (.slice _),.msl l off len=>match hp l with
   | some (.arr n _ _)=>some (off+len=n,.int .i64 len)
   | _=>none
 | some (.slice _),.bsl l off len=>match hp l with
   | some (.buf _ _ _)=>some (True,.int .i64 len)
   | _=>none
 | some (.array n _),_=>some (True,.int .i64 n)
 | _,_=>none
theorem run_len {P:Program}{k:K}(hk:HeapOk k){ρ:Operand→Value}{o:Oper}{t:TypeId}{x:Operand}(ho:o.op=.call { callee:=.builtin .len,args:=#[x],argTypes:=#[t] }){u:V}
 (hx:R k u (ρ x)) {pre:Prop} {r:V} (h:zdY P k.hp t u=some (pre,r)) (hp:pre):∃ cv,(execOp ρ o).run P k.w=.ok (.value cv) k.w∧R k r cv:=by
 have hexec:∀ {cv:Value},(Builtin.len_ #[t] o.type #[ρ x]).run P k.w=.ok cv k.w→(execOp ρ o).run P k.w=.ok (.value cv) k.w:=by
  intro cv hc
  simp[execOp,ho,resolve,invoke,builtin,hc]
 unfold zdY at h
 split at h
 ·rename_i s ht
  cases h
  refine⟨_,hexec ?_,.int _ _⟩
  have hz:(⟨s.toArray⟩:ByteArray).size=s.length:=by simp[ByteArray.size]
  rw[hx.str_inv]
  simp only[Builtin.len_,List.getElem?_toArray,List.getElem?_cons_zero,Sem.run_bind,run_underlying ht,Result.andThen_ok,Sem.run_pure,goInt,hz]
 ·rename_i e n sz get ht
  cases h
  refine⟨_,hexec ?_,.int _ _⟩
  generalize hq:ρ x=cx at hx
  cases hx <;> simp[Builtin.len_,run_underlying ht,goInt]
 ·rename_i e ht
  cases h
  refine⟨_,hexec ?_,.int _ _⟩
  rw[hx.nils_inv]
  simp[Builtin.len_,run_underlying ht,goInt]
 ·rename_i e l off len ht
  split at h
  ·rename_i n sz get ho2
   cases h
   refine⟨_,hexec ?_,.int _ _⟩
   generalize hq:ρ x=cx at hx
   cases hx with
   | msl _ _ _ _ h1c hn hh =>
     obtain⟨q1,q2⟩:=hh _ _ _ ho2
     have hcx:=q2 hp
     cases hB:k.B l with
     | none =>
       simp only[hB,mslVal] at hcx
       obtain⟨g1,g2,g3⟩:=hk.obj l _ ho2
       simp only[hB] at g3
       obtain rfl:len=0:=by omega
       subst hcx
       simp[Builtin.len_,run_underlying ht,goInt]
     | some bc =>
       simp only[hB,mslVal] at hcx
       subst hcx
       simp[Builtin.len_,run_underlying ht,goInt]
  ·cases h
 ·rename_i e l off len ht
  split at h
  ·rename_i c sz get ho2
   cases h
   refine⟨_,hexec ?_,.int _ _⟩
   generalize hq:ρ x=cx at hx
   cases hx with
   | bsl _ _ _ _ h1c hn hh =>
     obtain⟨bb,hB,q1,q2⟩:=hh _ _ _ ho2
     simp[Builtin.len_,run_underlying ht,goInt,q2]
  ·cases h
 ·rename_i n e ht
  cases h
  exact⟨_,hexec (by simp[Builtin.len_,run_underlying ht,goInt]),.int _ _⟩
 ·cases h
def extV (gr:Bool):List V→Option V
 | .int k a::rest=>rest.foldl (fun acc v=>match acc,v with
  | some (.int k' x),.int k'' y=>if k'=k'' then some (.int k' (if gr then max x y else min x y)) else none
  | _,_=>none) (some (.int k a))
 | _=>none
theorem zca (gr:Bool):∀ l:List V,l.foldl (fun acc v=>match acc,v with
 | some (.int k' x),.int k'' y=>if k'=k'' then some (.int k' (if gr then max x y else min x y)) else none
 | _,_=>none) (none:Option V)=none
 | []=>rfl
 | v::l=>zca gr l
theorem zkR {P:Program}{k:K}{ρ:Operand→Value}{o:Oper}{gr:Bool}{args:Array Operand}{ts:Array TypeId}(ho:o.op=.call { callee:=.builtin (if gr then .max else .min),args:=args,argTypes:=ts })
 {ev:Operand→V} (hev:∀ y,R k (ev y) (ρ y)) {r:V} (h:extV gr (args.toList.map ev)=some r):∃ cv,(execOp ρ o).run P k.w=.ok (.value cv) k.w∧R k r cv:=by
 have key:∀ (l:List Operand) (ik:IntKind) (a:Int) (r:V),(l.map ev).foldl (fun acc v=>match acc,v with
  | some (.int k' x),.int k'' y=>if k'=k'' then some (.int k' (if gr then max x y else min x y)) else none
  | _,_=>none) (some (V.int ik a))=some r→∃ n,r=.int ik n∧((l.map ρ).foldlM (if gr then Builtin.max2 else Builtin.min2) (Value.int ik a)).run P k.w=.ok (.int ik n) k.w:=by
  intro l
  induction l with
  | nil=>intro ik a r h;simp only[List.map_nil,List.foldl_nil,Option.some.injEq] at h;exact⟨a,h.symm,by simp⟩
  | cons y l ih =>
    intro ik a r h
    have hy:=hev y
    simp only[List.map_cons,List.foldl_cons] at h
    cases hv:ev y with
    | int ik' b =>
      rw[hv] at h hy
      by_cases e:ik=ik'
      ·subst e
       simp only[if_true] at h
       obtain⟨n,hn,hr⟩:=ih ik _ r h
       refine⟨n,hn,?_⟩
       rw[List.map_cons,List.foldlM_cons,Sem.run_bind,hy.int_inv]
       have:(if gr then Builtin.max2 else Builtin.min2) (Value.int ik a) (Value.int ik b)=pure (.int ik (if gr then max a b else min a b)):=by
        cases gr
        ·simp only[Bool.false_eq_true,if_false,Builtin.min2]
         congr 2
         split <;> omega
        ·simp only[if_true,Builtin.max2]
         congr 2
         split <;> omega
       rw[this]
       simpa using hr
      ·simp only[if_neg e] at h
       rw[zca] at h;cases h
    | _=>rw[hv] at h;simp only[zca] at h;cases h
 unfold extV at h
 split at h
 ·rename_i ik a rest hargs
  cases hl:args.toList with
  | nil=>rw[hl] at hargs;simp at hargs
  | cons x l =>
    rw[hl,List.map_cons] at hargs
    simp only[List.cons.injEq] at hargs
    obtain⟨hxe,rfl⟩:=hargs
    obtain⟨n,hn,hr⟩:=key l ik a r h
    subst hn
    refine⟨_,?_,.int _ _⟩
    have hx:=hev x
    rw[hxe] at hx
    have hargs2:(args.map ρ).toList=ρ x::l.map ρ:=by simp[hl]
    cases gr
    ·simp only[Bool.false_eq_true,if_false] at ho hr
     simp only[execOp,ho,resolve,invoke,builtin,Builtin.min_,Sem.run_bind,Sem.run_pure,Result.andThen_ok,hargs2,hx.int_inv,hr]
    ·simp only[if_true] at ho hr
     simp only[execOp,ho,resolve,invoke,builtin,Builtin.max_,Sem.run_bind,Sem.run_pure,Result.andThen_ok,hargs2,hx.int_inv,hr]
 ·cases h
inductive NoSl:V→Prop
 | int (k:IntKind) (n:Int):NoSl (.int k n)
 | bool (b:Bool):NoSl (.bool b)
 | flt (k:FloatKind) (n:Nat):NoSl (.flt k n)
 | cplx (k:FloatKind) (a b:Nat):NoSl (.cplx k a b)
 | str (s:List UInt8):NoSl (.str s)
 | nilp:NoSl .nilp
 | nilfn:NoSl .nilfn
 | nils:NoSl .nils
 | msl (l:Loc) (off len:Nat):NoSl (.msl l off len)
 | agg (cs:List V) (h:∀ (j:Nat) (v:V),cs[j]?=some v→NoSl v):NoSl (.agg cs)
 | tup (cs:List V) (h:∀ (j:Nat) (v:V),cs[j]?=some v→NoSl v):NoSl (.tup cs)
def NoSlO:Option AObj→Prop
 | none=>True
 | some (.cells _)=>False
 | some .dead=>False
 | some (.raw _)=>False
 | some (.buf _ _ _)=>False
 | some (.arr n _ get)=>∀ (i j:Nat) (v:V),i < n→(get i)[j]?=some v→NoSl v
theorem R.lift {k k':K}{rl:Loc}(hnm:∀ l,k.nm l→l=rl)(hnm':k'.nm rl∨∀ l,¬ k.nm l)(hrl:k'.hp rl=k.hp rl)(hB:k'.B rl=k.B rl)
 {v:V} {cv:Value} (hf:(∀ b,b < k.w.heap.size→¬ k.M b→b < k'.w.heap.size∧k'.w.heap[b]?=k.w.heap[b]?∧¬ k'.M b)∨NoSl v) (h:R k v cv):R k' v cv:=by
 have hn:∀ l,k.nm l→k'.nm l:=fun l hl=>by
  rcases hnm' with q | q
  ·exact hnm l hl ▸ q
  ·exact absurd hl (q l)
 induction h with
 | top cv=>exact .top cv
 | int ik n=>exact .int ik n
 | bool b=>exact .bool b
 | flt fk n=>exact .flt fk n
 | cplx fk a b=>exact .cplx fk a b
 | str s=>exact .str s
 | nilp=>exact .nilp
 | rawp L=>exact .rawp L
 | mapp L=>exact .mapp L
 | tabp xs b ty fz hM hb hh =>
   rcases hf with hf | hf
   ·obtain⟨q1,q2,q3⟩:=hf b hb hM
    exact .tabp xs b ty fz q3 q1 (by rw[q2];exact hh)
   ·cases hf
 | mapc o b hM hb hh =>
   rcases hf with hf | hf
   ·obtain⟨q1,q2,q3⟩:=hf b hb hM
    exact .mapc o b q3 q1 (by rw[q2];exact hh)
   ·cases hf
 | nilfn=>exact .nilfn
 | nils=>exact .nils
 | ptr l off cv h1 hnl h=>exact .ptr l off cv h1 (hn l hnl) fun cs hcs=>by rw[hnm l hnl,hrl,← hnm l hnl] at hcs;rw[h cs hcs,hnm l hnl,hB]
 | eptr l n sz i off cv h1 hnl h =>
  refine .eptr l n sz i off cv h1 (hn l hnl) fun n' sz' get hg=>?_
  rw[hnm l hnl,hrl,← hnm l hnl] at hg
  obtain⟨q1,q2,q3⟩:=h n' sz' get hg
  exact⟨q1,q2,fun e=>⟨(q3 e).1,by rw[(q3 e).2,hnm l hnl,hB]⟩⟩
 | psl l n off len cv h1 hnl h =>
  refine .psl l n off len cv h1 (hn l hnl) fun n' sz' get hg=>?_
  rw[hnm l hnl,hrl,← hnm l hnl] at hg
  obtain⟨q1,q2,q3⟩:=h n' sz' get hg
  exact⟨q1,q2,fun e=>by rw[q3 e,hnm l hnl,hB]⟩
 | cptr cs b off x hM hb hp hc h ih =>
   rcases hf with hf | hf
   ·obtain⟨q1,q2,q3⟩:=hf b hb hM
    exact .cptr cs b off x q3 q1 hp (fun j hj=>by rw[World.cell_eq_of_heap q2];exact hc j hj) fun j v hv=>ih j v hv (.inl hf)
   ·cases hf
 | sl0 sz get oa cap=>exact .sl0 sz get oa cap
 | sl n sz get b off cap x hM hb hcap hp hl hc h ih =>
   rcases hf with hf | hf
   ·obtain⟨q1,q2,q3⟩:=hf b hb hM
    exact .sl n sz get b off cap x q3 q1 hcap hp hl (fun i j hi hj=>by rw[World.cell_eq_of_heap q2];exact hc i j hi hj) fun i j v hi hv=>ih i j v hi hv (.inl hf)
   ·cases hf
 | msl l off len cv h1 hnl h =>
  refine .msl l off len cv h1 (hn l hnl) fun n sz get hg=>?_
  rw[hnm l hnl,hrl,← hnm l hnl] at hg
  obtain⟨q1,q2⟩:=h n sz get hg
  exact⟨q1,fun e=>by rw[q2 e,hnm l hnl,hB]⟩
 | bsl l off len cv h1 hnl h =>
  refine .bsl l off len cv h1 (hn l hnl) fun c sz get hg=>?_
  rw[hnm l hnl,hrl,← hnm l hnl] at hg
  obtain⟨b,q1,q2,q3⟩:=h c sz get hg
  exact⟨b,by rw[hnm l hnl,hB,← hnm l hnl];exact q1,q2,q3⟩
 | fn f first cap fs cs h1 h2 hf' hc ihf ihc =>
   rcases hf with hf | hf
   ·exact .fn f first cap fs cs h1 h2 (fun j v hv=>ihf j v hv (.inl hf)) fun j v hv=>ihc j v hv (.inl hf)
   ·cases hf
 | agg cs xs hs h ih=>exact .agg cs xs hs fun j v hv=>ih j v hv (hf.imp id fun q=>by cases q with | agg _ q=>exact q j v hv)
 | tup cs xs hs h ih=>exact .tup cs xs hs fun j v hv=>ih j v hv (hf.imp id fun q=>by cases q with | tup _ q=>exact q j v hv)
def zc4 (hp:Heap)(rl:Loc):Option AObj→Heap
 | none=>hp
 | some o=>updH hp rl o
theorem zfW {w w':World}{M M':Nat→Prop}{B:Loc→Option (Nat×Nat)}{hp:Heap}{ck:Nat}(hk:HeapOk (mkK w M B hp ck)){rl:Loc}{o:Option AObj}(hl:o.isSome=true→hp rl=none∧rl.1=ck)
 {B1:Option (Nat×Nat)} {val:V} {rv:Value} (hM':∀ b,M' b→M b) (hkind:∀ cs,o≠some (.cells cs)) (hkind2:o≠some .dead) (hkind3:∀ r,o≠some (.raw r)) (hkind4:∀ c sz get,o≠some (.buf c sz get))
 (hst:Step (yN w M') (ql w' M' rl o B1)) (hho:HeapOk (ql w' M' rl o B1)) (hv:R (ql w' M' rl o B1) val rv) (hno:o=none→Pu val) (hns:(∀ b,M b→M' b)∨(NoSl val∧NoSlO o)) :
 ∃ M2 B2,Step (mkK w M B hp ck) (mkK w' M2 B2 (zc4 hp rl o) ck)∧HeapOk (mkK w' M2 B2 (zc4 hp rl o) ck)∧R (mkK w' M2 B2 (zc4 hp rl o) ck) val rv:=by
 have hkeep:∀ b,b < w.heap.size→w'.heap[b]?=w.heap[b]?:=fun b hb=>hst.keep b hb (by rintro⟨l,o,c,h,_⟩;cases h)
 have hsize:w.heap.size≤w'.heap.size:=hst.size
 cases o with
 | none =>
   have st:Step (mkK w M B hp ck) (mkK w' M B hp ck) :=
    ⟨hst.os,hst.tape,hst.output,hsize,fun b hb _=>hkeep b hb,fun _ h=>.inl h,fun _ _ h=>h,fun _ _ _ h=>h,fun _ h=>h,fun l hl' o' ho'=>(Step.refl (mkK w M B hp ck)).names l hl' o' ho'⟩
   refine⟨M,B,st,⟨fun b hb=>Nat.lt_of_lt_of_le (hk.lt b hb) hsize,fun b hb=>⟨(hk.own b hb).1,Nat.lt_of_lt_of_le (hk.own b hb).2 hsize⟩,hk.nm,hk.inj,fun l o h=>ObjOk.step st hk h h rfl fun b c hb=>hkeep b (hk.own b ⟨l,o,c,h,hb⟩).2⟩,?_⟩
   rcases hns with hns | ⟨hns,_⟩
   ·refine R.pure (k:=ql w' M' rl none B1) (k':=mkK w' M B hp ck) (fun b hb hM=>⟨hb,rfl,fun q=>hM (.inl (hns b q))⟩) (hno rfl) hv
   ·have hpu:=hno rfl
    clear hno
    generalize hkk:ql w' M' rl none B1=kk at hv
    clear hkk
    induction hv with
    | top cv=>exact .top cv
    | int ik n=>exact .int ik n
    | bool b=>exact .bool b
    | flt fk n=>exact .flt fk n
    | cplx fk a b=>exact .cplx fk a b
    | str s=>exact .str s
    | nilp=>exact .nilp
    | rawp L=>exact .rawp L
    | mapp L=>exact .mapp L
    | tabp=>cases hns
    | mapc=>cases hns
    | nilfn=>exact .nilfn
    | nils=>exact .nils
    | ptr=>cases hns
    | eptr=>cases hns
    | psl=>cases hns
    | cptr=>cases hns
    | sl0 sz get oa cap=>exact .sl0 _ _ _ _
    | sl=>cases hns
    | msl=>cases hpu
    | bsl=>cases hpu
    | fn=>cases hns
    | agg cs xs hs h ih =>
      cases hns with
      | agg _ q=>cases hpu with
        | agg _ p=>exact .agg _ _ hs fun j v hv=>ih j v hv (q j v hv) (p j v hv)
    | tup cs xs hs h ih =>
      cases hns with
      | tup _ q=>cases hpu with
        | tup _ p=>exact .tup _ _ hs fun j v hv=>ih j v hv (q j v hv) (p j v hv)
 | some ob =>
   cases ob with
   | cells cs=>exact absurd rfl (hkind cs)
   | dead=>exact absurd rfl hkind2
   | raw r=>exact absurd rfl (hkind3 r)
   | buf c sz get=>exact absurd rfl (hkind4 c sz get)
   | arr n sz get =>
     obtain⟨hfree,hck⟩:=hl rfl
     have hnmno:¬ (mkK w M B hp ck).nm rl:=by
      intro h;rcases h with h | ⟨_,h⟩
      ·omega
      ·simp[hfree] at h
     have hold:∀ l':Loc,l'≠rl→updH hp rl (.arr n sz get) l'=hp l'∧yl B rl B1 l'=B l':=fun l' h=>⟨zc h,vx h⟩
     have hfresh:∀ b c,B1=some (b,c)→w.heap.size≤b∧b < w'.heap.size:=by
      intro b c hb
      have ho:(ql w' M' rl (some (.arr n sz get)) B1).owned b:=⟨rl,_,c,if_pos rfl,hb⟩
      refine⟨?_,(hho.own b ho).2⟩
      rcases hst.own b ho with⟨l,o,c,h,_⟩ | h
      ·cases h
      ·exact h
     let M2:Nat→Prop:=fun b=>M b∨∃ c,B1=some (b,c)
     let k2:K:=mkK w' M2 (yl B rl B1) (updH hp rl (.arr n sz get)) ck
     have hown:∀ b,k2.owned b→(mkK w M B hp ck).owned b∨∃ c,B1=some (b,c):=by
      rintro b ⟨l',o',c',h1,h2⟩
      by_cases e:l'=rl
      ·subst e
       have:yl B l' B1 l'=some (b,c'):=h2
       rw[zR] at this
       exact .inr ⟨c',this⟩
      ·have h3:updH hp rl (.arr n sz get) l'=some o':=h1
       have h4:yl B rl B1 l'=some (b,c'):=h2
       rw[(hold l' e).1] at h3;rw[(hold l' e).2] at h4
       exact .inl ⟨l',o',c',h3,h4⟩
     have st:Step (mkK w M B hp ck) k2:=by
      refine⟨hst.os,hst.tape,hst.output,hsize,fun b hb _=>hkeep b hb,fun b h=>(hown b h).imp id (fun⟨c,q⟩=>(hfresh b c q).1),fun b hb h=>?_,fun b _ _ h=>.inl h,fun l h=>ye h,fun l' hl' o' ho'=>?_⟩
      ·rcases h with h | ⟨c,h⟩
       ·exact h
       ·have h1:=(hfresh b c h).1
        have h2:b < w.heap.size:=hb
        omega
      ·have e:l'≠rl:=fun e=>hnmno (e ▸ hl')
       have h3:updH hp rl (.arr n sz get) l'=some o':=ho'
       rw[(hold l' e).1] at h3
       have q:=(Step.refl (mkK w M B hp ck)).names l' hl' o' h3
       cases o' with
       | dead=>trivial
       | raw r=>trivial
       | cells cs=>exact⟨q.1,(hold l' e).2⟩
       | buf _ _ _=>exact⟨q.1,(hold l' e).2⟩
       | arr n sz get=>obtain⟨n0,g0,q1,q2,q3⟩:=q;exact⟨n0,g0,q1,q2,fun _=>(hold l' e).2⟩
     have hobj:=hho.obj rl (.arr n sz get) (if_pos rfl)
     obtain⟨g1,g2,g3⟩:=hobj
     have hlift:∀ (v:V) (cv:Value),((∀ b,M b→M' b)∨NoSl v)→R (ql w' M' rl (some (.arr n sz get)) B1) v cv→R k2 v cv:=by
      intro v cv hq hr
      refine R.lift (k:=ql w' M' rl (some (.arr n sz get)) B1) (k':=k2) (rl:=rl) (fun l h=>h) (.inl (.inr ⟨hck,by show (updH hp rl _ rl).isSome=true;rw[zd];rfl⟩)) ?_ ?_ (hq.imp (fun hmm b hb hM=>⟨hb,rfl,fun q=>?_⟩) id) hr
      ·show updH hp rl _ rl=zes rl _ rl
       rw[zd];simp[zes]
      ·show yl B rl B1 rl=B1
       exact zR _ _ _
      ·rcases q with q | q
       ·exact hM (.inl (hmm b q))
       ·exact hM (.inr ⟨rfl,q⟩)
     refine⟨M2,yl B rl B1,st,⟨fun b hb=>?_,fun b hb=>?_,fun l o h=>?_,fun l1 l2 b c c' o1 o2 h1 h2 h3 h4=>?_,fun l o h=>?_⟩,hlift val rv (hns.imp id And.left) hv⟩
     ·rcases hb with h | ⟨c,h⟩
      ·exact Nat.lt_of_lt_of_le (hk.lt b h) hsize
      ·exact(hfresh b c h).2
     ·rcases hown b hb with h | ⟨c,h⟩
      ·exact⟨.inl (hk.own b h).1,Nat.lt_of_lt_of_le (hk.own b h).2 hsize⟩
      ·exact⟨.inr ⟨c,h⟩,(hfresh b c h).2⟩
     ·by_cases e:l=rl
      ·subst e;exact .inr ⟨hck,by show (updH hp l _ l).isSome=true;rw[zd];rfl⟩
      ·have h3:updH hp rl (.arr n sz get) l=some o:=h
       rw[(hold l e).1] at h3
       exact ye (hk.nm l o h3)
     ·have f:∀ l o b c,updH hp rl (.arr n sz get) l=some o→yl B rl B1 l=some (b,c)→(l=rl∧B1=some (b,c))∨(l≠rl∧hp l=some o∧B l=some (b,c)):=by
       intro l o b c p q
       by_cases e:l=rl
       ·subst e;rw[zR] at q;exact .inl ⟨rfl,q⟩
       ·rw[(hold l e).1] at p;rw[(hold l e).2] at q;exact .inr ⟨e,p,q⟩
      rcases f l1 o1 b c h1 h3 with⟨rfl,p1⟩ | ⟨e1,p1,p2⟩ <;> rcases f l2 o2 b c' h2 h4 with⟨rfl,q1⟩ | ⟨e2,q1,q2⟩
      ·rfl
      ·have a1:=(hfresh b c p1).1
       have a2:b < w.heap.size:=(hk.own b ⟨l2,o2,c',q1,q2⟩).2
       omega
      ·have a1:=(hfresh b c' q1).1
       have a2:b < w.heap.size:=(hk.own b ⟨l1,o1,c,p1,p2⟩).2
       omega
      ·exact hk.inj l1 l2 b c c' o1 o2 p1 q1 p2 q2
     ·by_cases e:l=rl
      ·subst e
       have q:updH hp l (.arr n sz get) l=some o:=h
       rw[zd] at q
       cases q
       refine⟨g1,g2,?_⟩
       have hB2:k2.B l=(ql w' M' l (some (.arr n sz get)) B1).B l:=zR _ _ _
       show match k2.B l with
        | none=>n=0
        | some (b,c)=>n≤c∧∃ xs ty fz,k2.w.heap[b]?=some (.cells xs ty fz)∧(∀ o:Nat,¬ (fz.1≤o∧o < fz.2))∧xs.size=c * sz ∧
         ∀ (i j:Nat) (v:V),i < n→(get i)[j]?=some v→R k2 v (xs.getD (i * sz+j) undef)
       rw[hB2]
       cases hB1:(ql w' M' l (some (.arr n sz get)) B1).B l with
       | none=>simpa [hB1] using g3
       | some bc =>
         obtain⟨b,c⟩:=bc
         simp only[hB1] at g3
         obtain⟨a1,xs,ty,fz,a2,a3,a4,a5⟩:=g3
         exact⟨a1,xs,ty,fz,a2,a3,a4,fun i j v hi hv=>hlift v _ (hns.imp id fun q=>q.2 i j v hi hv) (a5 i j v hi hv)⟩
      ·have h3:updH hp rl (.arr n sz get) l=some o:=h
       rw[(hold l e).1] at h3
       exact ObjOk.step st hk h3 h (hold l e).2 fun b c hb=>hkeep b (hk.own b ⟨l,o,c,h3,hb⟩).2
def jf (hp:Heap):Prop:=∀ (L:Nat) (o:AObj),hp (0,L)=some o→∃ r,o=.raw r
theorem zfi {w:World}{M:Nat→Prop}{B:Loc→Option (Nat×Nat)}{hp:Heap}{ck:Nat}(hk:HeapOk (mkK w M B hp ck))(hfree:jf hp)(ob:Obj) :
 hp (0,w.heap.size)=none∧Step (mkK w M B hp ck) (mkK (w.alloc ob) (fun b=>M b∨b=w.heap.size) (yl B (0,w.heap.size) (some (w.heap.size,0))) (updH hp (0,w.heap.size) (.raw ob)) ck) ∧
  HeapOk (mkK (w.alloc ob) (fun b=>M b∨b=w.heap.size) (yl B (0,w.heap.size) (some (w.heap.size,0))) (updH hp (0,w.heap.size) (.raw ob)) ck):=by
 obtain⟨L,hL0⟩:∃ L,L=w.heap.size:=⟨_,rfl⟩
 rw[← hL0]
 have hnone:hp (0,L)=none:=by
  cases q:hp (0,L) with
  | none=>rfl
  | some o =>
    obtain⟨r,rfl⟩:=hfree L o q
    obtain⟨h1,h2⟩:=hk.obj (0,L) _ q
    have:=wt h2
    have h3:L < w.heap.size:=this
    omega
 have hsz:(w.alloc ob).heap.size=w.heap.size+1:=World.size_alloc w _
 have hL:(w.alloc ob).heap[L]?=some ob:=by rw[hL0];exact World.alloc_heap_new w ob
 have hold:∀ b,b < w.heap.size→(w.alloc ob).heap[b]?=w.heap[b]?:=fun b hb=>wR hb
 generalize hk1:mkK (w.alloc ob) (fun b=>M b∨b=L) (yl B (0,L) (some (L,0))) (updH hp (0,L) (.raw ob)) ck=k1
 have e1:k1.w=w.alloc ob:=by rw[← hk1];rfl
 have e2:k1.M=fun b=>M b∨b=L:=by rw[← hk1];rfl
 have e3:k1.B=yl B (0,L) (some (L,0)):=by rw[← hk1];rfl
 have e4:k1.hp=updH hp (0,L) (.raw ob):=by rw[← hk1];rfl
 have e5:k1.nm=zjB ck (updH hp (0,L) (.raw ob)):=by rw[← hk1];rfl
 have hne:∀ l':Loc,l'≠(0,L)→k1.hp l'=hp l'∧k1.B l'=B l':=fun l' h=>by rw[e3,e4];exact⟨zc h,vx h⟩
 have hat:k1.hp (0,L)=some (.raw ob)∧k1.B (0,L)=some (L,0):=by rw[e3,e4];exact⟨zd _ _ _,zR _ _ _⟩
 have hown:∀ b,k1.owned b→(mkK w M B hp ck).owned b∨b=L:=by
  rintro b ⟨l',o',c',h1,h2⟩
  by_cases e:l'=(0,L)
  ·subst e
   rw[hat.2] at h2
   cases h2
   exact .inr rfl
  ·rw[(hne l' e).1] at h1;rw[(hne l' e).2] at h2
   exact .inl ⟨l',o',c',h1,h2⟩
 have st1:Step (mkK w M B hp ck) k1:=by
  refine⟨by rw[e1];rfl,by rw[e1];rfl,by rw[e1];rfl,by rw[e1,hsz];exact Nat.le_succ _,fun b hb _=>by rw[e1];exact hold b hb,fun b hb'=>?_,fun b hb' hm=>?_,fun b _ _ hm=>by rw[e2];exact .inl hm,fun l' hl'=>by rw[e5];exact ye hl',fun l' hl' o' ho'=>?_⟩
  ·rcases hown b hb' with q | q
   ·exact .inl q
   ·exact .inr (by show w.heap.size≤b;omega)
  ·have hb2:b < w.heap.size:=hb'
   rw[e2] at hm
   rcases hm with q | q
   ·exact q
   ·omega
  ·by_cases e:l'=(0,L)
   ·subst e
    rw[hat.1] at ho'
    cases ho'
    trivial
   ·have h3:=ho'
    rw[(hne l' e).1] at h3
    have q:=(Step.refl (mkK w M B hp ck)).names l' hl' o' h3
    cases o' with
    | dead=>trivial
    | raw r=>trivial
    | cells cs=>exact⟨q.1,(hne l' e).2⟩
    | buf _ _ _=>exact⟨q.1,(hne l' e).2⟩
    | arr n sz get=>obtain⟨n0,g0,q1,q2,q3⟩:=q;exact⟨n0,g0,q1,q2,fun _=>(hne l' e).2⟩
 refine⟨hnone,st1,⟨fun b hb'=>?_,fun b hb'=>?_,fun l' o' h1=>?_,fun l1 l2 b c1 c2 o1 o2 h1 h2 h3 h4=>?_,fun l' o' h1=>?_⟩⟩
 ·rw[e1,hsz]
  rw[e2] at hb'
  rcases hb' with q | q
  ·have:b < w.heap.size:=hk.lt b q
   omega
  ·omega
 ·rw[e1,e2,hsz]
  rcases hown b hb' with q | q
  ·refine⟨.inl (hk.own b q).1,?_⟩
   have:b < w.heap.size:=(hk.own b q).2
   omega
  ·exact⟨.inr q,by omega⟩
 ·rw[e5]
  by_cases e:l'=(0,L)
  ·subst e
   by_cases z:ck=0
   ·exact .inr ⟨by show 0=ck;omega,by rw[zd];rfl⟩
   ·exact .inl (by show 0 < ck;omega)
  ·rw[(hne l' e).1] at h1
   exact ye (hk.nm l' o' h1)
 ·have f:∀ l' o' c',l'≠(0,L)→k1.hp l'=some o'→k1.B l'=some (b,c')→b < w.heap.size∧hp l'=some o'∧B l'=some (b,c'):=by
   intro l' o' c' e g1 g2
   rw[(hne l' e).1] at g1;rw[(hne l' e).2] at g2
   exact⟨(hk.own b ⟨l',o',c',g1,g2⟩).2,g1,g2⟩
  by_cases q1:l1=(0,L)
  ·by_cases q2:l2=(0,L)
   ·rw[q1,q2]
   ·have:=f l2 o2 c2 q2 h2 h4
    subst q1
    rw[hat.2] at h3
    cases h3
    omega
  ·by_cases q2:l2=(0,L)
   ·have:=f l1 o1 c1 q1 h1 h3
    subst q2
    rw[hat.2] at h4
    cases h4
    omega
   ·obtain⟨_,a1,a2⟩:=f l1 o1 c1 q1 h1 h3
    obtain⟨_,b1,b2⟩:=f l2 o2 c2 q2 h2 h4
    exact hk.inj l1 l2 b c1 c2 o1 o2 a1 b1 a2 b2
 ·by_cases e:l'=(0,L)
  ·subst e
   rw[hat.1] at h1
   cases h1
   exact⟨hat.2,by rw[e1];exact hL⟩
  ·have h3:=h1
   rw[(hne l' e).1] at h3
   exact ObjOk.step st1 hk h3 h1 (hne l' e).2 fun b c hb'=>by rw[e1];exact hold b (hk.own b ⟨l',o',c,h3,hb'⟩).2
theorem vK {w:World}{M:Nat→Prop}{B:Loc→Option (Nat×Nat)}{hp:Heap}{ck:Nat}(hk:HeapOk (mkK w M B hp ck)){L:Nat}{r:Obj}(hl:hp (0,L)=some (.raw r))(r':Obj) :
 w.heap[L]?=some r∧Step (mkK w M B hp ck) (mkK (w.putObj L r') M B (updH hp (0,L) (.raw r')) ck)∧HeapOk (mkK (w.putObj L r') M B (updH hp (0,L) (.raw r')) ck):=by
 obtain⟨hB,hh⟩:=hk.obj (0,L) _ hl
 have hlt:L < w.heap.size:=wt hh
 obtain⟨q1,q2⟩:=vi hk (l:=(0,L)) hl (o':=.raw r') (b:=L) (c:=0) hB trivial (w':=w.putObj L r') ⟨rfl,rfl,rfl,World.putObj_size⟩ (fun x hx=>World.putObj_heap_other hx)
  (fun k' hw hB' st=>⟨hB',by rw[hw];exact World.putObj_heap_same hlt⟩)
 exact⟨hh,q1,q2⟩
theorem zgr {X:Cx}(hX:X.Ok){o:Oper}{t:TypeId}{x:Operand}{s:St}{Kn:St→Prop}(ho:o.op=.range t x)(ht:X.P.underlying t=some .string){str:List UInt8}(hx:ev X s x=.str str)(hfree:jf s.hp)
 (hK:∀ L,s.hp (0,L)=none→Kn ⟨s.ck,putTm s.tm o.dst (.rawp L),updH s.hp (0,L) (.raw (.stringIter ⟨str.toArray⟩ 0))⟩):y5 X o s Kn:=by
 intro a w ⟨M,B,hst,hho,htm,hmk⟩ next Q hn
 have hev:=zcw hX (ds:=a.defers) hst htm x
 rw[hx] at hev
 obtain⟨q1,q2,q3⟩:=zfi hho hfree (.stringIter ⟨str.toArray⟩ 0)
 refine ym (by simp[ho]) ?_
 have hrun:(execOp a.eval o).run X.P w=.ok (.value (.pointer (some ⟨w.heap.size,0,none⟩))) (w.alloc (.stringIter ⟨str.toArray⟩ 0)):=by
  simp[execOp,ho,hev.str_inv,run_range_string w t _ ht,World.iter]
 rw[hrun]
 have hown:∀ b,(mkK w M B s.hp s.ck).owned b→(mkK w M B s.hp s.ck).M b:=fun b hb=>(hho.own b hb).1
 refine hn _ _ _ (hK w.heap.size q1) ⟨_,_,hst.trans q2,q3,(htm.step q2 hown).put (.rawp _),?_⟩
 have:(a.put o.dst (.pointer (some ⟨w.heap.size,0,none⟩))).defers=a.defers:=by cases o.dst <;> rfl
 rw[this]
 exact hmk.step q2
theorem zjC {X:Cx}(hX:X.Ok){o:Oper}{x:Operand}{s:St}{Kn:St→Prop}(ho:o.op=.next x true){L:Nat}(hx:ev X s x=.rawp L){b:ByteArray}{pos:Nat}(hl:s.hp (0,L)=some (.raw (.stringIter b pos)))
 (h1:pos < b.size→Kn ⟨s.ck,putTm s.tm o.dst (.tup [.bool true,.int .i64 pos,.int .i32 (Utf8.decode b pos).1]),updH s.hp (0,L) (.raw (.stringIter b (pos+(Utf8.decode b pos).2)))⟩)
 (h2:b.size≤pos→Kn ⟨s.ck,putTm s.tm o.dst (.tup [.bool false]),s.hp⟩):y5 X o s Kn:=by
 intro a w ⟨M,B,hst,hho,htm,hmk⟩ next Q hn
 have hev:=zcw hX (ds:=a.defers) hst htm x
 rw[hx] at hev
 have hcv:a.eval x=.pointer (some ⟨L,0,none⟩):=by
  have h2:R (mkK w M B s.hp s.ck) (.rawp L) (a.eval x):=hev
  generalize a.eval x=cv at h2
  cases h2;rfl
 have hown:∀ b,(mkK w M B s.hp s.ck).owned b→(mkK w M B s.hp s.ck).M b:=fun b hb=>(hho.own b hb).1
 obtain⟨hB,hh⟩:=hho.obj (0,L) _ hl
 have hh':w.heap[L]?=some (.stringIter b pos):=hh
 refine ym (by simp[ho]) ?_
 by_cases hlt:pos < b.size
 ·obtain⟨g1,g2,g3⟩:=vK hho hl (.stringIter b (pos+(Utf8.decode b pos).2))
  have hrun:(execOp a.eval o).run X.P w=.ok (.value (.tuple #[.bool true,.int .i64 pos,.int .i32 (Utf8.decode b pos).1])) (w.putObj L (.stringIter b (pos+(Utf8.decode b pos).2))):=by
   simp[execOp,ho,hcv,Instr.next,getObj,setObj,Sem.run,hh',hlt,goInt,World.putObj]
  rw[hrun]
  refine hn _ _ _ (h1 hlt) ⟨_,_,hst.trans g2,g3,(htm.step g2 hown).put (.tup _ _ rfl fun j v hv=>?_),?_⟩
  ·rcases j with _ | _ | _ | j <;> simp at hv
   ·subst hv;exact .bool _
   ·subst hv;exact .int _ _
   ·subst hv;exact .int _ _
  ·have:(a.put o.dst (.tuple #[.bool true,.int .i64 pos,.int .i32 (Utf8.decode b pos).1])).defers=a.defers:=by cases o.dst <;> rfl
   rw[this]
   exact hmk.step g2
 ·have hrun:(execOp a.eval o).run X.P w=.ok (.value (.tuple #[.bool false])) w:=by
   simp[execOp,ho,hcv,Instr.next,getObj,Sem.run,hh',hlt]
  rw[hrun]
  refine hn _ _ _ (h2 (Nat.le_of_not_lt hlt)) ⟨M,B,hst,hho,htm.put (.tup _ _ rfl fun j v hv=>?_),?_⟩
  ·rcases j with _ | j <;> simp at hv
   subst hv;exact .bool _
  ·have:(a.put o.dst (.tuple #[.bool false])).defers=a.defers:=by cases o.dst <;> rfl
   rw[this]
   exact hmk
def zcu (P:Program)(t:TypeId)(o:Obj)(s:List UInt8):Option (V×Bool) :=
 match P.underlying t,o with
 | some (.map kt et),.map es _ =>
   match P.underlying kt with
   | some .string =>
     match Instr.findNow .string (.string ⟨s.toArray⟩) es.toList 0 with
     | some (some (_,v))=>some (ofValue v,true)
     | some none=>match tzero P et with
       | some z=>some (z,false)
       | none=>none
     | none=>none
   | _=>none
 | _,_=>none
def zgM (hp:Heap):V→Option Obj
 | .mapc o=>some o
 | .mapp L=>match hp (0,L) with
   | some (.raw o)=>some o
   | _=>none
 | _=>none
def zfm (P:Program)(hp:Heap)(t:TypeId)(x k:V):Option (Prop×V) :=
 match zgM hp x,k with
 | some o,.str s=>match zcu P t o s with
   | some (v,b)=>some (True,.tup [v,.bool b])
   | none=>none
 | _,_=>none
def zfn (P:Program)(hp:Heap)(t:TypeId)(x k:V):Option (Prop×V) :=
 match x,k with
 | .mapc o,.str s=>match zcu P t o s with
   | some (v,_)=>some (True,v)
   | none=>none
 | _,_ =>
 match P.underlying t,x,k with
 | some (.map kt et),.mapp L,.str s =>
   match P.underlying kt,hp (0,L) with
   | some .string,some (.raw (.map es _)) =>
     match Instr.findNow .string (.string ⟨s.toArray⟩) es.toList 0 with
     | some (some (_,v))=>some (True,zaN v)
     | some none=>match tzero P et with
       | some z=>some (True,z)
       | none=>none
     | none=>none
   | _,_=>none
 | _,_,_=>none
theorem yX {P:Program}{w:World}{e:Bool}{kt:TypeId}{v:Value}(h:P.underlying kt=some .string):(Instr.checkKey e 10000 kt v).run P w=.ok () w:=by
 rw[show (10000:Nat)=9999+1 from rfl,Instr.checkKey]
 simp[underlying,Sem.run,h]
theorem vc {P:Program}{w:World}{kt:TypeId}{v:Value}{es:List MapEntry}{r:Option (Nat×Value)}(h:P.underlying kt=some .string)(hr:Instr.findNow .string v es 0=some r):(Instr.findKey kt v es).run P w=.ok r w:=by
 simp[Instr.findKey,underlying,Sem.run,h,hr]
theorem zeL {P:Program}{k:K}{ρ:Operand→Value}{o:Oper}{t:TypeId}{x ix:Operand}{c:Bool}(ho:o.op=.lookup t x ix c){b:Nat}{ob:Obj}{s:List UInt8}(hx:ρ x=.map (some b))(hi:R k (.str s) (ρ ix))(hh:k.w.heap[b]?=some ob){v:V}{f:Bool}(h:zcu P t ob s=some (v,f)) :
 ∃ cv,(execOp ρ o).run P k.w=.ok (.value (if c then .tuple #[cv,.bool f] else cv)) k.w∧R k v cv:=by
 unfold zcu at h
 split at h
 ·rename_i kt et es ca ht
  split at h
  ·rename_i hkt
   have e2:=hi.str_inv
   have hg:(getObj b).run P k.w=.ok (.map es ca) k.w:=by simp[getObj,Sem.run,hh]
   have hu:(underlying t).run P k.w=.ok (.map kt et) k.w:=by simp[underlying,Sem.run,ht]
   split at h
   ·rename_i j v' hf
    cases h
    exact⟨v',by simp only[execOp,ho,hx,e2,Instr.lookup,Sem.run_bind,hu,Result.andThen_ok,hg,Sem.run_pure,yX hkt,vc hkt hf,if_false,Bool.false_eq_true],qn k v'⟩
   ·rename_i hf
    cases hz:tzero P et with
    | none=>rw[hz] at h;cases h
    | some z =>
      rw[hz] at h
      cases h
      obtain⟨cz,h1,h2,-,-⟩:=jF (k:=k) hz k.w
      exact⟨cz,by simp only[execOp,ho,hx,e2,Instr.lookup,Sem.run_bind,hu,Result.andThen_ok,hg,Sem.run_pure,yX hkt,vc hkt hf,h1,if_false,Bool.false_eq_true],h2⟩
   ·cases h
  ·cases h
 ·cases h
theorem lookT_R {k:K}(hk:HeapOk k){x:V}{o:Obj}(h:zgM k.hp x=some o){cv:Value}(hx:R k x cv):∃ b,cv=.map (some b)∧k.w.heap[b]?=some o:=by
 unfold zgM at h
 split at h
 ·cases h;exact hx.mapc_inv
 ·rename_i L
  split at h
  ·rename_i o' hl
   cases h
   exact⟨L,hx.mapp_inv,(hk.obj (0,L) _ hl).2⟩
  ·cases h
 ·cases h
theorem zkN {P:Program}{k:K}(hk:HeapOk k){ρ:Operand→Value}{o:Oper}{t:TypeId}{x ix:Operand}(ho:o.op=.lookup t x ix true){u i:V}(hx:R k u (ρ x))(hi:R k i (ρ ix)){p:Prop}{r:V}(h:zfm P k.hp t u i=some (p,r)) :
 ∃ cv,(execOp ρ o).run P k.w=.ok (.value cv) k.w∧R k r cv:=by
 unfold zfm at h
 split at h
 ·rename_i ob s hT
  split at h
  ·rename_i v b hO
   cases h
   obtain⟨bl,h1,h2⟩:=lookT_R hk hT hx
   obtain⟨cv,h3,h4⟩:=zeL ho h1 hi h2 hO
   refine⟨_,h3,.tup _ _ rfl fun j u hu=>?_⟩
   rcases j with _ | _ | j
   ·simp only[List.getElem?_cons_zero,Option.some.injEq] at hu
    subst hu
    exact h4
   ·simp only[List.getElem?_cons_succ,List.getElem?_cons_zero,Option.some.injEq] at hu
    subst hu
    exact .bool _
   ·simp at hu
  ·cases h
 ·cases h
theorem zjb {P:Program}{k:K}(hk:HeapOk k){ρ:Operand→Value}{o:Oper}{t:TypeId}{x ix:Operand}(ho:o.op=.lookup t x ix false){u i:V}(hx:R k u (ρ x))(hi:R k i (ρ ix)){p:Prop}{r:V}(h:zfn P k.hp t u i=some (p,r)) :
 ∃ cv,(execOp ρ o).run P k.w=.ok (.value cv) k.w∧R k r cv:=by
 unfold zfn at h
 split at h
 ·rename_i ob s
  split at h
  ·rename_i v b hO
   cases h
   obtain⟨bl,h1,h2⟩:=hx.mapc_inv
   obtain⟨cv,h3,h4⟩:=zeL ho h1 hi h2 hO
   exact⟨cv,h3,h4⟩
  ·cases h
 ·split at h
  ·rename_i kt et L s ht _
   split at h
   ·rename_i es c hkt hl
    obtain⟨hB,hh⟩:=hk.obj (0,L) _ hl
    have hh':k.w.heap[L]?=some (.map es c):=hh
    have e1:=hx.mapp_inv
    have e2:=hi.str_inv
    have hg:(getObj L).run P k.w=.ok (.map es c) k.w:=by simp[getObj,Sem.run,hh']
    have hu:(underlying t).run P k.w=.ok (.map kt et) k.w:=by simp[underlying,Sem.run,ht]
    split at h
    ·rename_i j v hf
     cases h
     exact⟨v,by simp only[execOp,ho,e1,e2,Instr.lookup,Sem.run_bind,hu,Result.andThen_ok,hg,Sem.run_pure,yX hkt,vc hkt hf,if_false,Bool.false_eq_true],zdN k v⟩
    ·rename_i hf
     cases hz:tzero P et with
     | none=>rw[hz] at h;cases h
     | some z =>
       rw[hz] at h
       cases h
       obtain⟨cz,h1,h2,-,-⟩:=jF (k:=k) hz k.w
       exact⟨cz,by simp only[execOp,ho,e1,e2,Instr.lookup,Sem.run_bind,hu,Result.andThen_ok,hg,Sem.run_pure,yX hkt,vc hkt hf,h1,if_false,Bool.false_eq_true],h2⟩
    ·cases h
   ·cases h
  ·cases h
def zhm:V→Option Value
 | .bool b=>some (.bool b)
 | .int k n=>some (.int k n)
 | .str s=>some (.string ⟨s.toArray⟩)
 | .fn f [] []=>some (.func f #[] #[])
 | _=>none
def zah:List V→Option (List Value)
 | []=>some []
 | v::l=>match zhm v,zah l with
   | some x,some xs=>some (x::xs)
   | _,_=>none
theorem toCell_R {k:K}{v:V}{x cv:Value}(h:zhm v=some x)(hR:R k v cv):cv=x:=by
 unfold zhm at h
 split at h
 ·cases h;exact hR.bool_inv
 ·cases h;exact hR.int_inv
 ·cases h;exact hR.str_inv
 ·cases h
  obtain⟨fs,cs,rfl,h1,h2,_,_⟩:=hR.fn_inv
  have h1:fs.size=0:=h1
  have h2:cs.size=0:=h2
  rw[Array.eq_empty_of_size_eq_zero h1,Array.eq_empty_of_size_eq_zero h2]
 ·cases h
theorem zex {k:K}:∀ {l:List V} {xs ys:List Value},zah l=some xs→ys.length=l.length→(∀ (j:Nat) (v:V),l[j]?=some v→R k v (ys.getD j undef))→ys=xs
 | [],xs,ys,h,hl,_=>by
   cases h
   exact List.eq_nil_of_length_eq_zero hl
 | v::l,xs,[],h,hl,_=>by simp at hl
 | v::l,xs,y::ys,h,hl,hR=>by
   unfold zah at h
   split at h
   ·rename_i x zs h1 h2
    cases h
    have e1:y=x:=toCell_R (k:=k) h1 (by simpa using hR 0 v rfl)
    have e2:ys=zs:=zex (k:=k) h2 (by simpa using hl) fun j u hu=>by simpa using hR (j+1) u (by simpa using hu)
    rw[e1,e2]
   ·cases h
def toVal:V→Option Value
 | .bool b=>some (.bool b)
 | .int k n=>some (.int k n)
 | .str s=>some (.string ⟨s.toArray⟩)
 | .agg cs=>(zah cs).map fun l=>.agg l.toArray
 | _=>none
theorem zkt {k:K}{v:V}{x cv:Value}(h:toVal v=some x)(hR:R k v cv):cv=x:=by
 unfold toVal at h
 split at h
 ·cases h;exact hR.bool_inv
 ·cases h;exact hR.int_inv
 ·cases h;exact hR.str_inv
 ·rename_i cs
  obtain⟨xs,rfl,h1,h2⟩:=hR.agg_inv
  cases hc:zah cs with
  | none=>rw[hc] at h;cases h
  | some l =>
    rw[hc] at h
    cases h
    rw[← zex (ys:=xs.toList) hc (by simpa using h1) fun j v hv=>by simpa [List.getD_eq_getElem?_getD,Array.getD_eq_getD_getElem?] using h2 j v hv]
 ·cases h
def zgI (P:Program)(hp:Heap)(t:TypeId)(m k x:V):Option (Prop×Heap) :=
 match P.underlying t,m,k,toVal x with
 | some (.map kt _),.mapp L,.str s,some xv =>
   match P.underlying kt,hp (0,L) with
   | some .string,some (.raw (.map es c)) =>
     match Instr.findNow .string (.string ⟨s.toArray⟩) es.toList 0 with
     | some none=>some (True,updH hp (0,L) (.raw (.map (es.push ⟨.string ⟨s.toArray⟩,xv,c⟩) (c+1))))
     | _=>none
   | _,_=>none
 | _,_,_,_=>none
theorem zbW {X:Cx}(hX:X.Ok){o:Oper}{t:TypeId}{m ki x:Operand}{s:St}{Kn:St→Prop}(ho:o.op=.mapUpdate t m ki x){p:Prop}{hp':Heap}(h:zgI X.P s.hp t (ev X s m) (ev X s ki) (ev X s x)=some (p,hp'))
 (hK:Kn ⟨s.ck,putTm s.tm o.dst .top,hp'⟩):y5 X o s Kn:=by
 refine y5.of_skip hp' (by simp[ho]) (fun M B a w hst hho htm=>?_) hK
 have hev:∀ y,R (mkK w M B s.hp s.ck) (ev X s y) (a.eval y):=fun y=>zcw hX (ds:=a.defers) hst htm y
 unfold zgI at h
 split at h
 ·rename_i kt et L str xv ht hm hki hxv
  split at h
  ·rename_i es c hkt hl
   split at h
   ·rename_i hf
    cases h
    obtain⟨hh,g2,g3⟩:=vK hho hl (.map (es.push ⟨.string ⟨str.toArray⟩,xv,c⟩) (c+1))
    have e1:=(hm ▸ hev m).mapp_inv
    have e2:=(hki ▸ hev ki).str_inv
    have e3:=zkt hxv (hev x)
    have hg:(getObj L).run X.P w=.ok (.map es c) w:=by simp[getObj,Sem.run,hh]
    have hu:(underlying t).run X.P w=.ok (.map kt et) w:=by simp[underlying,Sem.run,ht]
    have hs:(setObj L (.map (es.push ⟨.string ⟨str.toArray⟩,xv,c⟩) (c+1))).run X.P w=.ok () (w.putObj L (.map (es.push ⟨.string ⟨str.toArray⟩,xv,c⟩) (c+1))):=by simp[setObj,Sem.run,World.putObj,show w.heap[L]?=some (.map es c) from hh]
    refine⟨_,M,B,?_,g2,g3⟩
    simp only[execOp,ho,e1,e2,e3,Instr.mapUpdate,Sem.run_bind,hu,Result.andThen_ok,hg,Sem.run_pure,yX hkt,vc hkt hf,hs]
   ·cases h
  ·cases h
 ·cases h
theorem zfA {X:Cx}(hX:X.Ok){o:Oper}{t:TypeId}{m ki x:Operand}{s:St}{Kn:St→Prop}(ho:o.op=.insert t m ki x){p:Prop}{hp':Heap}(h:zgI X.P s.hp t (ev X s m) (ev X s ki) (ev X s x)=some (p,hp'))
 (hK:Kn ⟨s.ck,putTm s.tm o.dst .top,hp'⟩):y5 X o s Kn:=by
 refine y5.of_skip hp' (by simp[ho]) (fun M B a w hst hho htm=>?_) hK
 have hev:∀ y,R (mkK w M B s.hp s.ck) (ev X s y) (a.eval y):=fun y=>zcw hX (ds:=a.defers) hst htm y
 unfold zgI at h
 split at h
 ·rename_i kt et L str xv ht hm hki hxv
  split at h
  ·rename_i es c hkt hl
   split at h
   ·rename_i hf
    cases h
    obtain⟨hh,g2,g3⟩:=vK hho hl (.map (es.push ⟨.string ⟨str.toArray⟩,xv,c⟩) (c+1))
    have e1:=(hm ▸ hev m).mapp_inv
    have e2:=(hki ▸ hev ki).str_inv
    have e3:=zkt hxv (hev x)
    have hg:(getObj L).run X.P w=.ok (.map es c) w:=by simp[getObj,Sem.run,hh]
    have hu:(underlying t).run X.P w=.ok (.map kt et) w:=by simp[underlying,Sem.run,ht]
    have hs:(setObj L (.map (es.push ⟨.string ⟨str.toArray⟩,xv,c⟩) (c+1))).run X.P w=.ok () (w.putObj L (.map (es.push ⟨.string ⟨str.toArray⟩,xv,c⟩) (c+1))):=by simp[setObj,Sem.run,World.putObj,show w.heap[L]?=some (.map es c) from hh]
    refine⟨_,M,B,?_,g2,g3⟩
    simp only[execOp,ho,e1,e2,e3,Instr.mapUpdate,Sem.run_bind,hu,Result.andThen_ok,hg,Sem.run_pure,yX hkt,vc hkt hf,hs]
   ·cases h
  ·cases h
 ·cases h
theorem zdU {X:Cx}(hX:X.Ok){o:Oper}{t:TypeId}{s:St}{Kn:St→Prop}(ho:o.op=.makeMap t none)(hfree:jf s.hp)
 (hK:∀ L,s.hp (0,L)=none→Kn ⟨s.ck,putTm s.tm o.dst (.mapp L),updH s.hp (0,L) (.raw (.map #[] 0))⟩):y5 X o s Kn:=by
 intro a w ⟨M,B,hst,hho,htm,hmk⟩ next Q hn
 obtain⟨q1,q2,q3⟩:=zfi hho hfree (.map #[] 0)
 refine ym (by simp[ho]) ?_
 have hrun:(execOp a.eval o).run X.P w=.ok (.value (.map (some w.heap.size))) (w.alloc (.map #[] 0)):=by
  simp[execOp,ho,Instr.makeMap,newObj]
  simp[Sem.run]
 rw[hrun]
 have hown:∀ b,(mkK w M B s.hp s.ck).owned b→(mkK w M B s.hp s.ck).M b:=fun b hb=>(hho.own b hb).1
 refine hn _ _ _ (hK w.heap.size q1) ⟨_,_,hst.trans q2,q3,(htm.step q2 hown).put (.mapp _),?_⟩
 have:(a.put o.dst (.map (some w.heap.size))).defers=a.defers:=by cases o.dst <;> rfl
 rw[this]
 exact hmk.step q2
theorem killW_ok {w w2:World}{M:Nat→Prop}{B:Loc→Option (Nat×Nat)}{hp:Heap}{ck:Nat}(hk:HeapOk (mkK w M B hp ck)){l:Loc}{n sz:Nat}{get:Nat→List V}(hl:hp l=some (.arr n sz get))(hpr:∀ (i j:Nat) (v:V),i < n→(get i)[j]?=some v→Pu v)
 {b0 c0:Nat} (hB0:B l=some (b0,c0)) (hmark:∀ xs ty fz,w.heap[b0]?=some (.cells xs ty fz)→∃ fz2,w2.heap[b0]?=some (.cells xs ty fz2)) (hsz:w2.heap.size=w.heap.size) (hkeep:∀ b',b'≠b0→w2.heap[b']?=w.heap[b']?) (hos:w2.os=w.os) (htp:w2.tape=w.tape) (hout:w2.output=w.output) :
 ∃ M' B',Step (mkK w M B hp ck) (mkK w2 M' B' (updH hp l .dead) ck)∧HeapOk (mkK w2 M' B' (updH hp l .dead) ck) ∧
  ∀ cv,R (mkK w M B hp ck) (.msl l 0 n) cv→R (mkK w2 M' B' (updH hp l .dead) ck) (.sl n sz get) cv:=by
 let k':K:=mkK w2 (fun b=>M b∧∀ c,B l≠some (b,c)) (yl B l none) (updH hp l .dead) ck
 have hold:∀ l':Loc,l'≠l→updH hp l .dead l'=hp l'∧yl B l none l'=B l':=fun l' h=>⟨zc h,vx h⟩
 have hown:∀ b,k'.owned b→∃ l' o c,l'≠l∧hp l'=some o∧B l'=some (b,c):=by
  rintro b ⟨l',o',c',h1,h2⟩
  by_cases e:l'=l
  ·subst e
   have:yl B l' none l'=some (b,c'):=h2
   rw[zR] at this
   cases this
  ·have h3:updH hp l .dead l'=some o':=h1
   have h4:yl B l none l'=some (b,c'):=h2
   rw[(hold l' e).1] at h3;rw[(hold l' e).2] at h4
   exact⟨l',o',c',e,h3,h4⟩
 have st:Step (mkK w M B hp ck) k':=by
  refine⟨hos,htp,hout,Nat.le_of_eq hsz.symm,fun b' _ hno=>hkeep b' (fun e=>hno ⟨l,_,c0,hl,e ▸ hB0⟩),fun b hb=>?_,fun b _ hm=>hm.1,fun b _ ho hm=>⟨hm,fun c hc=>ho ⟨l,_,c,hl,hc⟩⟩,fun l' h=>ye h,fun l' hl' o' ho'=>?_⟩
  ·obtain⟨l',o,c,_,h1,h2⟩:=hown b hb
   exact .inl ⟨l',o,c,h1,h2⟩
  ·by_cases e:l'=l
   ·subst e
    have h3:updH hp l' .dead l'=some o':=ho'
    rw[zd] at h3
    cases h3
    trivial
   ·have h3:updH hp l .dead l'=some o':=ho'
    rw[(hold l' e).1] at h3
    have q:=(Step.refl (mkK w M B hp ck)).names l' hl' o' h3
    cases o' with
    | dead=>trivial
    | raw r=>trivial
    | cells cs=>exact⟨q.1,(hold l' e).2⟩
    | buf _ _ _=>exact⟨q.1,(hold l' e).2⟩
    | arr n sz get=>obtain⟨n0,g0,q1,q2,q3⟩:=q;exact⟨n0,g0,q1,q2,fun _=>(hold l' e).2⟩
 refine⟨_,_,st,⟨fun b hb=>by show b < w2.heap.size;rw[hsz];exact hk.lt b hb.1,fun b hb=>?_,fun l' o' h1=>?_,fun l1 l2 b c1 c2 o1 o2 h1 h2 h3 h4=>?_,fun l' o' h1=>?_⟩,?_⟩
 ·obtain⟨l',o,c,e,h1,h2⟩:=hown b hb
  refine⟨⟨(hk.own b ⟨l',o,c,h1,h2⟩).1,fun c' hc=>e (hk.inj l' l b c c' o _ h1 hl h2 hc)⟩,by show b < w2.heap.size;rw[hsz];exact(hk.own b ⟨l',o,c,h1,h2⟩).2⟩
 ·by_cases e:l'=l
  ·subst e;exact ye (hk.nm l' _ hl)
  ·have h3:updH hp l .dead l'=some o':=h1
   rw[(hold l' e).1] at h3
   exact ye (hk.nm l' o' h3)
 ·have f:∀ l' c,yl B l none l'=some (b,c)→l'≠l:=by
   intro l' c h e
   subst e
   rw[zR] at h
   cases h
  have e1:=f l1 c1 h3
  have e2:=f l2 c2 h4
  have h1':updH hp l .dead l1=some o1:=h1
  have h2':updH hp l .dead l2=some o2:=h2
  have h3':yl B l none l1=some (b,c1):=h3
  have h4':yl B l none l2=some (b,c2):=h4
  rw[(hold l1 e1).1] at h1'
  rw[(hold l2 e2).1] at h2'
  rw[(hold l1 e1).2] at h3'
  rw[(hold l2 e2).2] at h4'
  exact hk.inj l1 l2 b c1 c2 o1 o2 h1' h2' h3' h4'
 ·by_cases e:l'=l
  ·subst e
   have h3:updH hp l' .dead l'=some o':=h1
   rw[zd] at h3
   cases h3
   exact zR B l' none
  ·have h3:updH hp l .dead l'=some o':=h1
   rw[(hold l' e).1] at h3
   exact ObjOk.step st hk h3 (by show updH hp l .dead l'=_;rw[(hold l' e).1];exact h3) (hold l' e).2 fun b' c' hb'=>hkeep b' (fun q=>e (hk.inj l' l b0 c' c0 o' _ h3 hl (q ▸ hb') hB0))
 ·intro cv hv
  cases hv with
  | msl _ _ _ _ h1c hn h =>
    obtain⟨h1,h2⟩:=h _ _ _ hl
    have hcv:=h2 (by omega)
    obtain⟨g1,g2,g3⟩:=hk.obj l _ hl
    have hpu:Pu (.sl n sz get):=.sl _ _ _ hpr
    cases hB:(mkK w M B hp ck).B l with
    | none =>
      simp only[hB] at g3
      subst g3
      simp only[hB,mslVal] at hcv
      subst hcv
      exact .sl0 _ _ _ _
    | some bc =>
      obtain⟨b,c⟩:=bc
      simp only[hB] at g3
      obtain⟨hnc,xs,ty,fz,hh,hz,hs,hr⟩:=g3
      have hbb:b=b0:=by have q:B l=some (b,c):=hB;rw[hB0] at q;cases q;rfl
      obtain⟨fz2,hh2⟩:=hmark xs ty fz (hbb ▸ hh)
      rw[← hbb] at hh2
      simp only[hB,mslVal] at hcv
      subst hcv
      refine .sl _ _ _ b (0 * sz) (c - 0) (fun i j=>xs.getD (i * sz+j) undef) (fun q=>q.2 c hB) (wt hh2) (by omega) hpu (fun i hi=>g1 _ hi) (fun i j hi hj=>?_) fun i j v hi hv=>?_
      ·rw[Nat.zero_mul,Nat.zero_add]
       have hlt:i * sz+j < xs.size:=by
        rw[hs]
        have:(i+1) * sz≤c * sz:=Nat.mul_le_mul_right _ (by omega)
        rw[Nat.add_mul i] at this
        omega
       exact z6 hh2 hlt
      ·exact(hr i j v hi hv).step st fun b hb=>(hk.own b hb).1
def zk6 (P:Program)(o:Option AObj)(src dst:TypeId)(n:Nat):Option (Prop×V) :=
 match P.underlying src,P.underlying dst,o with
 | some (.slice _),some (.slice e),some (.arr n' sz get)=>match P.underlying e with
   | some (.int .u8)=>if src=dst∧n=n'∧0 < n then some (∀ i,i < n→∀ v∈get i,Pu v,.sl n sz get) else none
   | _=>none
 | _,_,_=>none
def kn (P:Program)(hp:Heap)(src dst:TypeId)(x:V):Option (Prop×V×Heap) :=
 match x with
 | .msl l 0 n=>match zk6 P (hp l) src dst n with
   | some (p,v)=>some (p,v,updH hp l .dead)
   | none=>none
 | _=>none
theorem zci {P:Program}{o:Option AObj}{src dst:TypeId}{n:Nat}{p:Prop}{v:V}(h:zk6 P o src dst n=some (p,v)) :
 ∃ e0 sz get,P.underlying src=some (.slice e0)∧src=dst∧o=some (.arr n sz get)∧P.underlying e0=some (.int .u8)∧0 < n∧p=(∀ i,i < n→∀ v∈get i,Pu v)∧v=.sl n sz get:=by
 unfold zk6 at h
 split at h
 ·rename_i e0 e n' sz get h1 h2
  split at h
  ·rename_i he
   split at h
   ·rename_i hc
    obtain⟨rfl,rfl,hn⟩:=hc
    have hee:e0=e:=by rw[h1] at h2;cases h2;rfl
    subst hee
    simp only[Option.some.injEq,Prod.mk.injEq] at h
    exact⟨e0,sz,get,h1,rfl,rfl,he,hn,h.1.symm,h.2.symm⟩
   ·cases h
  ·cases h
 ·cases h
theorem zch {P:Program}{hp:Heap}{src dst:TypeId}{x:V}{p:Prop}{v:V}{hp':Heap}(h:kn P hp src dst x=some (p,v,hp')) :
 ∃ l n,x=.msl l 0 n∧zk6 P (hp l) src dst n=some (p,v)∧hp'=updH hp l .dead:=by
 unfold kn at h
 split at h
 ·rename_i l n
  cases hg:zk6 P (hp l) src dst n with
  | none=>rw[hg] at h;cases h
  | some r=>obtain⟨q,u⟩:=r;rw[hg] at h;cases h;exact⟨l,n,rfl,hg,rfl⟩
 ·cases h
theorem convI_ok {X:Cx}(hX:X.Ok){o:Oper}{src dst:TypeId}{x:Operand}{s:St}{Kn:St→Prop}(ho:o.op=.convert src dst x){p:Prop}{r:V}{hp':Heap}(h:kn X.P s.hp src dst (ev X s x)=some (p,r,hp'))(hp:p)
 (hK:Kn ⟨s.ck,putTm s.tm o.dst r,hp'⟩):y5 X o s Kn:=by
 refine y5.of_run r hp' (by simp[ho]) (fun M B a w hst hho htm=>?_) hK
 have hx:=zcw hX (ds:=a.defers) hst htm x
 obtain⟨l,n,hev,hg,rfl⟩:=zch h
 obtain⟨e0,sz,get,h1,rfl,hl,he,hn,rfl,rfl⟩:=zci hg
 rw[hev] at hx
 have hx0:=hx
 generalize hcv:a.eval x=cv at hx
 cases hx with
 | msl _ _ _ _ g1 gn g =>
   obtain⟨q1,q2⟩:=g _ _ _ hl
   have q3:=q2 (by omega)
   obtain⟨o1,o2,o3⟩:=hho.obj l _ hl
   cases hB:(mkK w M B s.hp s.ck).B l with
   | none =>
     simp only[hB] at o3
     omega
   | some bc =>
     obtain⟨b,c⟩:=bc
     simp only[hB] at o3
     obtain⟨hnc,xs,ty,fz,hh,hz,hs,hr⟩:=o3
     simp only[hB,mslVal] at q3
     subst q3
     have hh:w.heap[b]?=some (.cells xs ty fz):=hh
     have hsh:w.shape? b=some (ty,xs.size):=by unfold World.shape?;rw[hh]
     have hfz:∀ b',(w.freeze ⟨b,xs.size,none⟩ 1).heap[b']?=if b=b' then some (.cells xs ty (if fz.1 == fz.2 then (xs.size,xs.size+1) else (min fz.1 xs.size,max fz.2 (xs.size+1)))) else w.heap[b']?:=fun b'=>by
      unfold World.freeze
      rw[if_neg (by decide)]
      simp only[Array.getElem?_modify]
      by_cases e:b=b'
      ·subst e
       rw[if_pos rfl,if_pos rfl,hh]
       rfl
      ·rw[if_neg e,if_neg e]
     obtain⟨M',B',st,hk',hR⟩:=killW_ok (w2:=w.freeze ⟨b,xs.size,none⟩ 1) hho hl (fun i j v hi hv=>hp i hi v (List.mem_of_getElem? hv)) (b0:=b) (c0:=c) hB
      (fun xs' ty' fz' q=>by rw[hh] at q;cases q;exact⟨_,(hfz b).trans (if_pos rfl)⟩) (by simp[World.freeze]) (fun b' hb'=>(hfz b').trans (if_neg fun e=>hb' e.symm)) (by simp[World.freeze]) (by simp[World.freeze]) (by simp[World.freeze])
     refine⟨_,_,M',B',?_,st,hk',hR _ hx0⟩
     simp only[execOp,ho,hcv,convert,run_underlying h1,run_underlying he,Sem.run_bind,Result.andThen_ok]
     simp[markStringish,hsh,Sem.run_pure,run_underlying he]
def zl (P:Program)(f:FuncId):Prop:=∀ (args:Array Value) (w:World),(callFunc f args).run P w=.ok (.enter f args) w
theorem ze {P:Program}{f:FuncId}{fn:Func}(hf:P.funcs[f]?=some fn)(hb:fn.body.isSome=true)(hn:(fn.name == "runtime.NumGoroutine")=false):zl P f:=by
 intro args w
 have hb':fn.body.isNone=false:=by cases h:fn.body <;> simp_all
 simp only[callFunc,Sem.run_bind,run_program,Result.andThen_ok,hf,hn,hb',Bool.false_eq_true,if_false,Sem.run_pure,Sem.run_ite]
def zp (X:Cx)(hp:Heap)(ck:Nat)(f:FuncId)(args:List V)(Kn:V→Heap→Nat→Prop):Prop :=
 ∀ (w:World) (M:Nat→Prop) (B:Loc→Option (Nat×Nat)) (vs:Array Value),Step X.k0 (mkK w M B hp ck)→HeapOk (mkK w M B hp ck)→zae (mkK w M B hp ck) args vs →
  Calls X.P f vs w fun e w'=>∃ rv r hp' ck' M' B',Kn r hp' ck'∧e=.returned rv∧Step (mkK w M B hp ck) (mkK w' M' B' hp' ck')∧HeapOk (mkK w' M' B' hp' ck')∧R (mkK w' M' B' hp' ck') r rv
noncomputable def kp (s:St) (dst:Option Tmp) (C:Contract) (args:List V):Prop :=
 (C (s.ck,dst.getD 0) (args.map (frz 5 s.hp))).pre ∧
 ((∀ a∈args,Pu a)∨(NoSl (C (s.ck,dst.getD 0) (args.map (frz 5 s.hp))).val∧NoSlO (C (s.ck,dst.getD 0) (args.map (frz 5 s.hp))).obj)) ∧
 match (C (s.ck,dst.getD 0) (args.map (frz 5 s.hp))).obj with
 | none=>Pu (C (s.ck,dst.getD 0) (args.map (frz 5 s.hp))).val
 | some (.cells _)=>False
 | some .dead=>False
 | some (.raw _)=>False
 | some (.buf _ _ _)=>False
 | some (.arr _ _ _)=>s.hp (s.ck,dst.getD 0)=none
theorem zcz {X:Cx}(hX:X.Ok){s:St}{dst:Option Tmp}{f:FuncId}{C:Contract}(hf:X.Γ f=some C){args:List V}{Kn:V→Heap→Nat→Prop}(hpre:kp s dst C args)
 (hK:Kn (C (s.ck,dst.getD 0) (args.map (frz 5 s.hp))).val (zc4 s.hp (s.ck,dst.getD 0) (C (s.ck,dst.getD 0) (args.map (frz 5 s.hp))).obj) s.ck):zp X s.hp s.ck f args Kn:=by
 intro w M B vs hst hho hargs
 obtain⟨hp1,hp2,hp3⟩:=hpre
 generalize hO:C (s.ck,dst.getD 0) (args.map (frz 5 s.hp))=out at hp1 hp2 hp3 hK
 -- which blocks the callee must leave out of account
 let M':Nat→Prop:=fun b=>M b∧(¬ (mkK w M B s.hp s.ck).owned b∨∀ a∈args,Pu a)
 have hM':∀ b,M' b→M b:=fun b h=>h.1
 have hG:∀ g,R (yN w M') (X.G g) (.pointer (some ⟨g,0,none⟩)):=by
  intro g
  have h0:=(hX.G0 g).step hst hX.own
  rcases hX.G g with hp | ht
  ·exact R.pure (k:=mkK w M B s.hp s.ck) (k':=yN w M') (fun b hb hM=>⟨hb,rfl,fun q=>hM (hM' b q)⟩) hp h0
  ·rw[ht];exact .top _
 have hfr:zae (yN w M') (args.map (frz 5 s.hp)) vs∧∀ a∈args.map (frz 5 s.hp),Pu a:=by
  by_cases hall:∀ a∈args,Pu a
  ·have he:args.map (frz 5 s.hp)=args:=by
    refine(List.map_congr_left fun a ha=>?_).trans (List.map_id args)
    simp only[frz,if_pos (hall a ha)];rfl
   rw[he]
   exact⟨⟨hargs.1,fun j v hv=>R.pure (k:=mkK w M B s.hp s.ck) (k':=yN w M') (fun b hb hM=>⟨hb,rfl,fun q=>hM (hM' b q)⟩) (hall v (yi hv)) (hargs.2 j v hv)⟩,hall⟩
  ·have key:∀ {v:V} {cv:Value},R (mkK w M B s.hp s.ck) v cv→Pu (frz 5 s.hp v)∧R (yN w M') (frz 5 s.hp v) cv:=fun {v cv} h =>
    frz_R (k':=yN w M') hho (fun b hb hc=>⟨hb,rfl,fun q=>by
     rcases hc with hc | hc
     ·exact hc q.1
     ·rcases q.2 with q2 | q2
      ·exact q2 hc
      ·exact hall q2⟩) 5 h
   refine⟨⟨by simpa using hargs.1,fun j v hv=>?_⟩,fun a ha=>?_⟩
   ·obtain⟨x,hx,rfl⟩:=wm hv
    exact(key (hargs.2 j x hx)).2
   ·obtain⟨x,hx,rfl⟩:=List.mem_map.1 ha
    obtain⟨j,hj⟩:=List.mem_iff_getElem?.1 hx
    exact(key (hargs.2 j x hj)).1
 have hH:=hX.Γ f C hf (s.ck,dst.getD 0) (args.map (frz 5 s.hp)) w M' vs (fun b hb=>hho.lt b hb.1) hG hfr.2 hfr.1 (by rw[hO];exact hp1)
 rw[hO] at hH
 refine hH.mono fun e w' ⟨rv,B1,he,h1,h2,h3⟩=>?_
 have hns:(∀ b,M b→M' b)∨(NoSl out.val∧NoSlO out.obj):=hp2.imp (fun q b hb=>⟨hb,.inr q⟩) id
 have hc:=zfW (w:=w) (w':=w') (M:=M) (M':=M') hho (rl:=(s.ck,dst.getD 0)) (o:=out.obj) (fun hs=>by
  cases ho:out.obj with
  | none=>rw[ho] at hs;cases hs
  | some ob =>
    cases ob with
    | cells cs=>rw[ho] at hp3;exact hp3.elim
    | dead=>rw[ho] at hp3;exact hp3.elim
    | raw r=>rw[ho] at hp3;exact hp3.elim
    | buf _ _ _=>rw[ho] at hp3;exact hp3.elim
    | arr n sz get=>rw[ho] at hp3;exact⟨hp3,rfl⟩) hM' (fun cs ho=>by rw[ho] at hp3;exact hp3) (fun ho=>by rw[ho] at hp3;exact hp3) (fun r ho=>by rw[ho] at hp3;exact hp3) (fun c sz get ho=>by rw[ho] at hp3;exact hp3) h1 h2 h3 (fun ho=>by rw[ho] at hp3;exact hp3) hns
 obtain⟨M2,B2,g1,g2,g3⟩:=hc
 exact⟨rv,_,_,_,M2,B2,hK,he,g1,g2,g3⟩
theorem zel {X:Cx}(hX:X.Ok){o:Oper}{c:Call}{x:Operand}{s:St}{Kn:St→Prop}(ho:o.op=.call c)(hc:c.callee=.value x){f:FuncId}{first cap:List V}(hx:ev X s x=.fn (.func f) first cap)(hen:zl X.P f)
 (h:zp X s.hp s.ck f (first++c.args.toList.map (ev X s)++cap) (fun r hp' ck'=>Kn ⟨ck',putTm s.tm o.dst r,hp'⟩)):y5 X o s Kn:=by
 intro a w ⟨M,B,hst,hho,htm,hmk⟩ next Q hn
 have hev:∀ y,R (mkK w M B s.hp s.ck) (ev X s y) (a.eval y):=fun y=>zcw hX (ds:=a.defers) hst htm y
 have hfx:=hev x
 rw[hx] at hfx
 obtain⟨fs,cs,hfv,hfs,hcs,hfr,hcr⟩:=hfx.fn_inv
 refine ym (by simp[ho]) ?_
 have hexec:(execOp a.eval o).run X.P w=.ok (.enter f (fs++c.args.map a.eval++cs)) w:=by
  simp only[execOp,ho,resolve,hc,hfv,Deferred.ofValue,Sem.run_bind,Sem.run_pure,Result.andThen_ok,invoke,hen _ w]
 rw[hexec]
 obtain⟨hm1,hm2⟩:=zlW hev c.args
 have happ:∀ {l1 l2:List V} {v1 v2:Array Value},zae (mkK w M B s.hp s.ck) l1 v1→zae (mkK w M B s.hp s.ck) l2 v2→zae (mkK w M B s.hp s.ck) (l1++l2) (v1++v2):=by
  intro l1 l2 v1 v2 h1 h2
  refine⟨by simp[h1.1,h2.1],fun j v hv=>?_⟩
  by_cases hj:j < l1.length
  ·rw[List.getElem?_append_left hj] at hv
   have:=h1.2 j v hv
   simp only[Array.getD_eq_getD_getElem?] at this ⊢
   rwa [Array.getElem?_append_left (by rw[h1.1];exact hj)]
  ·rw[List.getElem?_append_right (by omega)] at hv
   have:=h2.2 _ v hv
   simp only[Array.getD_eq_getD_getElem?] at this ⊢
   rw[Array.getElem?_append_right (by rw[h1.1];omega),h1.1]
   exact this
 have hargs:=happ (happ ⟨hfs,hfr⟩ ⟨hm1,hm2⟩) ⟨hcs,hcr⟩
 have hcall:=h w M B _ hst hho hargs
 refine⟨fun h=>by simp[WF] at h,qN.2 (hcall.mono fun e w' ⟨rv,r,hp',ck',M',B',hk,he,h1,h2,h3⟩=>?_)⟩
 subst he
 have hown:∀ b,(mkK w M B s.hp s.ck).owned b→(mkK w M B s.hp s.ck).M b:=fun b hb=>(hho.own b hb).1
 refine hn _ _ _ hk ⟨M',B',hst.trans h1,h2,(htm.step h1 hown).put h3,?_⟩
 have:(a.put o.dst rv).defers=a.defers:=by cases o.dst <;> rfl
 rw[this]
 exact hmk.step h1
def zax (s:St)(dst:Option Tmp)(r:Option (Prop×V))(Kn:St→Prop):Prop :=
 match r with
 | some (p,v)=>p∧Kn ⟨s.ck,putTm s.tm dst v,s.hp⟩
 | none=>False
def zaw (s:St)(dst:Option Tmp)(r:Option V)(Kn:St→Prop):Prop :=
 match r with
 | some v=>Kn ⟨s.ck,putTm s.tm dst v,s.hp⟩
 | none=>False
def zaU (s:St)(dst:Option Tmp)(r:Option (Prop×V×Heap))(Kn:St→Prop):Prop :=
 match r with
 | some (p,v,hp')=>p∧Kn ⟨s.ck,putTm s.tm dst v,hp'⟩
 | none=>False
def zdh (X:Cx)(s:St)(dst:Option Tmp)(L:Nat)(args:List V)(Kn:St→Prop):Prop :=
 X.Ok→∀ (o:Oper) (c:Call) (x:Operand),o.op=.call c→c.callee=.value x→ev X s x=.fn (.yield L) [] []→c.args.toList.map (ev X s)=args→o.dst=dst→y5 X o s Kn
def ExtT (P:Program)(hp:Heap)(f:FuncId)(args:List V)(Kv:V→Prop):Prop :=
 ∃ v,(∀ (k:K) (vs:Array Value),zae k args vs→HeapOk k→k.hp=hp→∃ cv,(callFunc f vs).run P k.w=.ok (.value cv) k.w∧R k v cv)∧Kv v
theorem ext_ok {X:Cx}(hX:X.Ok){o:Oper}{c:Call}{x:Operand}{s:St}{Kn:St→Prop}(ho:o.op=.call c)(hc:c.callee=.value x){f:FuncId}{first cap:List V}(hx:ev X s x=.fn (.func f) first cap)
 (h:ExtT X.P s.hp f (first++c.args.toList.map (ev X s)++cap) (fun r=>Kn ⟨s.ck,putTm s.tm o.dst r,s.hp⟩)):y5 X o s Kn:=by
 obtain⟨v,hv,hk⟩:=h
 refine y5.of_val hX v (by simp[ho]) (fun k a _ hho hhp hev=>?_) hk
 have hfx:=hev x
 rw[hx] at hfx
 obtain⟨fs,cs,hfv,hfs,hcs,hfr,hcr⟩:=hfx.fn_inv
 obtain⟨hm1,hm2⟩:=zlW hev c.args
 have happ:∀ {l1 l2:List V} {v1 v2:Array Value},zae k l1 v1→zae k l2 v2→zae k (l1++l2) (v1++v2):=by
  intro l1 l2 v1 v2 h1 h2
  refine⟨by simp[h1.1,h2.1],fun j v hv=>?_⟩
  by_cases hj:j < l1.length
  ·rw[List.getElem?_append_left hj] at hv
   have:=h1.2 j v hv
   simp only[Array.getD_eq_getD_getElem?] at this ⊢
   rwa [Array.getElem?_append_left (by rw[h1.1];exact hj)]
  ·rw[List.getElem?_append_right (by omega)] at hv
   have:=h2.2 _ v hv
   simp only[Array.getD_eq_getD_getElem?] at this ⊢
   rw[Array.getElem?_append_right (by rw[h1.1];omega),h1.1]
   exact this
 obtain⟨cv,hr,hR⟩:=hv k _ (happ (happ ⟨hfs,hfr⟩ ⟨hm1,hm2⟩) ⟨hcs,hcr⟩) hho hhp
 refine⟨cv,?_,hR⟩
 simp only[execOp,ho,resolve,hc,hfv,Deferred.ofValue,Sem.run_bind,Sem.run_pure,Result.andThen_ok,invoke,hr]
def yJ (d:Nat):FuncId:=2000+d
def isOwn (X:Cx)(dst:Option Tmp):Bool :=
 match dst with
 | some d=>(X.Γ (yJ d)).isSome
 | none=>false
def wi (d:Nat):FuncId:=3000+d
def isInl (X:Cx)(dst:Option Tmp):Bool :=
 match dst with
 | some d=>(X.Γ (wi d)).isSome
 | none=>false
def selC (X:Cx)(dst:Option Tmp)(f:FuncId):Option Contract:=if isInl X dst=true then none else X.Γ f
theorem zkD {X:Cx}{dst:Option Tmp}{f:FuncId}{C:Contract}(h:selC X dst f=some C):X.Γ f=some C:=by
 unfold selC at h
 split at h
 ·cases h
 ·exact h
noncomputable def qU (X:Cx) (s:St) (dst:Option Tmp) (x:V) (args:List V) (Kn:St→Prop):Prop :=
 match x with
 | .fn (.func f) first cap =>
   match selC X dst f with
   | some C=>zl X.P f∧kp s dst C (first++args++cap) ∧
    Kn ⟨s.ck,putTm s.tm dst (C (s.ck,dst.getD 0) ((first++args++cap).map (frz 5 s.hp))).val,zc4 s.hp (s.ck,dst.getD 0) (C (s.ck,dst.getD 0) ((first++args++cap).map (frz 5 s.hp))).obj⟩
   | none=>(zl X.P f∧(X.Ok→zp X s.hp s.ck f (first++args++cap) (fun r hp' ck'=>Kn ⟨ck',putTm s.tm dst r,hp'⟩)))∨ExtT X.P s.hp f (first++args++cap) (fun r=>Kn ⟨s.ck,putTm s.tm dst r,s.hp⟩)
 | .fn (.yield L) [] []=>zdh X s dst L args Kn
 | _=>False
def zm (d:Nat):FuncId:=1000+d
def zcv (X:Cx)(dst:Option Tmp):Bool :=
 match dst with
 | some d=>(X.Γ (zm d)).isSome
 | none=>false
def zml:V→Bool
 | .int _ _=>true
 | _=>false
noncomputable def wV (X:Cx) (s:St) (dst:Option Tmp) (b:Builtin) (args:List Operand) (ts:List TypeId) (Kn:St→Prop):Prop :=
 match b,args,ts with
 | .len,[x],[t]=>zax s dst (zdY X.P s.hp t (ev X s x)) Kn
 | .cap,[x],[t]=>zax s dst (capTV X.P s.hp t (ev X s x)) Kn
 | .append,[x,y],[t,t2]=>if zfy (ev X s x)=true then finD s dst (if zml (ev X s y)=true then znt X.P s dst t t2 (ev X s x) (ev X s y) else appD X.P s dst t t2 (ev X s x) (ev X s y)) Kn else zaU s dst (if isOwn X dst=true then appendN X.P s dst t t2 (ev X s x) (ev X s y) else if zcv X dst=true then appendZ X.P s dst t t2 (ev X s x) (ev X s y) else vC X.P s dst t t2 (ev X s x) (ev X s y)) Kn
 | .copy,[x,y],[t,_]=>zaU s dst (if zfy (ev X s x)=true then copyB X.P s t (ev X s x) (ev X s y) else zk5 X.P s t (ev X s x) (ev X s y)) Kn
 | .real,[x],[_]=>zaw s dst (reV (ev X s x)) Kn
 | .imag,[x],[_]=>zaw s dst (imV (ev X s x)) Kn
 | .complex,[x,y],[_,_]=>zax s dst (cpxV (ev X s x) (ev X s y)) Kn
 | .max,l,_=>zaw s dst (extV true (l.map (ev X s))) Kn
 | .min,l,_=>zaw s dst (extV false (l.map (ev X s))) Kn
 | _,_,_=>False
def zG:Contract:=fun _ _=>⟨False,.top,none⟩
theorem za {P:Program}{G:Nat→V}{f:FuncId}:Holds P G f zG:=fun _ _ _ _ _ _ _ _ _ h=>h.elim
def zni (P:Program)(src dst:TypeId)(x:V):Option (Prop×V) :=
 match P.underlying src,P.underlying dst,x with
 | some .string,some (.slice e),.str s=>match P.underlying e with
   | some (.int .u8)=>some (True,.sl s.length 1 fun i=>[.int .u8 (s.getD i 0).toNat])
   | _=>none
 | _,_,_=>none
def zcx (P:Program)(src dst:TypeId)(x:V):Option (Prop×V):=match zni P src dst x with
 | some r=>some r
 | none=>znh P src dst x
theorem convB_ok {X:Cx}(hX:X.Ok){o:Oper}{src dst:TypeId}{x:Operand}{s:St}{Kn:St→Prop}(ho:o.op=.convert src dst x){p:Prop}{r:V}(h:zni X.P src dst (ev X s x)=some (p,r))(hp:p)
 (hK:Kn ⟨s.ck,putTm s.tm o.dst r,s.hp⟩):y5 X o s Kn:=by
 refine y5.of_run r s.hp (by simp[ho]) (fun M B a w hst hho htm=>?_) hK
 have hx:=zcw hX (ds:=a.defers) hst htm x
 unfold zni at h
 split at h
 ·rename_i e sb h1 h2 h3
  split at h
  ·rename_i he
   simp only[Option.some.injEq,Prod.mk.injEq] at h
   obtain⟨rfl,rfl⟩:=h
   rw[h3] at hx
   have hxe:a.eval x=.string ⟨sb.toArray⟩:=hx.str_inv
   obtain⟨c,hcc,w',elems,fz,hrun,hsz,hlt,hnew,hos,htape,hout,hel⟩:∃ c,sb.length≤c∧∃ (w':World) (elems:Array Value) (fz:Nat×Nat),(execOp a.eval o).run X.P w=.ok (.value (.slice (some ⟨w.heap.size,0,none⟩) sb.length c)) w'∧w'.heap.size=w.heap.size+1 ∧
    (∀ b,b < w.heap.size→w'.heap[b]?=w.heap[b]?)∧w'.heap[w.heap.size]?=some (.cells elems e fz)∧w'.os=w.os∧w'.tape=w.tape∧w'.output=w.output∧∀ i,i < sb.length→elems[i]?=some (.int .u8 (sb.getD i 0).toNat):=by
    refine⟨Question.cut (.appendCap sb.length 0 e) (w.tape w.drawn (.appendCap sb.length 0 e)),by simp[Question.cut],?_⟩
    have hf:(Question.appendCap sb.length 0 e).forced=false:=rfl
    generalize hc:Question.cut (.appendCap sb.length 0 e) (w.tape w.drawn (.appendCap sb.length 0 e))=c
    obtain⟨xs,hxs⟩:∃ xs:Array Value,xs=(sb.toArray.map fun b=>Value.int .u8 b.toNat)++Array.replicate (c - sb.length) (Value.int .u8 0):=⟨_,rfl⟩
    have hW:(w.drew.alloc (.cells xs e)).heap[w.heap.size]?=some (.cells xs e (0,0)):=jT w.drew _
    have hWs:(w.drew.alloc (.cells xs e)).heap.size=w.heap.size+1:=World.size_alloc w.drew _
    refine⟨(w.drew.alloc (.cells xs e)).freeze ⟨w.heap.size,xs.size,none⟩ 1,xs,(xs.size,xs.size+1),?_,?_,?_,?_,?_,?_,?_,?_⟩
    ·have hsz0:(⟨sb.toArray⟩:ByteArray).size=sb.length:=by simp[ByteArray.size]
     have hsh:(w.drew.alloc (.cells xs e)).shape? w.heap.size=some (e,xs.size):=by unfold World.shape?;rw[hW]
     simp only[execOp,ho,hxe,convert,run_underlying h1,run_underlying h2,run_underlying he,Sem.run_bind,Result.andThen_ok,Conv.stringToBytes,hsz0]
     have hxs2:xs=(List.map (fun b:UInt8=>Value.int .u8 b.toNat) sb).toArray++Array.replicate (c - sb.length) (Value.int .u8 0):=by rw[hxs];simp
     simp[hf,hc,newRow,markStringish,Sem.run_pure]
     rw[← hxs2,hsh]
     simp
    ·simp[World.freeze,hWs]
    ·intro b hb
     have h9:(w.drew.alloc (.cells xs e)).heap[b]?=w.heap[b]?:=wR (w:=w.drew) hb
     rw[← h9]
     simp only[World.freeze,if_neg (show ¬ 1=0 by decide),Array.getElem?_modify]
     rw[if_neg (by omega)]
    ·simp only[World.freeze,if_neg (show ¬ 1=0 by decide),Array.getElem?_modify,if_true,hW]
     rfl
    ·simp[World.freeze];rfl
    ·simp[World.freeze]
    ·simp[World.freeze];rfl
    ·intro i hi
     rw[hxs,Array.getElem?_append_left (by simpa using hi)]
     simp[hi]
   have st:Step (mkK w M B s.hp s.ck) (mkK w' M B s.hp s.ck) :=
    ⟨hos,htape,hout,by show w.heap.size≤w'.heap.size;omega,fun b hb _=>hlt b hb,fun b hb=>.inl hb,fun _ _ h=>h,fun _ _ _ h=>h,fun _ h=>h,
     fun l hl o' ho'=>(Step.refl (mkK w M B s.hp s.ck)).names l hl o' ho'⟩
   refine⟨_,w',M,B,hrun,st,⟨fun b hb=>?_,fun b hb=>?_,hho.nm,hho.inj,fun l ob hl=>?_⟩,?_⟩
   ·have h3:b < w.heap.size:=hho.lt b hb
    show b < w'.heap.size
    omega
   ·have h4:=hho.own b hb
    have h3:b < w.heap.size:=h4.2
    exact⟨h4.1,by show b < w'.heap.size;omega⟩
   ·exact ObjOk.step st hho hl hl rfl fun b c hb=>hlt b (hho.own b ⟨l,ob,c,hl,hb⟩).2
   ·rcases Nat.eq_zero_or_pos sb.length with z | z
    ·rw[z];exact .sl0 _ _ _ _
    ·refine .sl _ _ _ w.heap.size 0 c (fun i j=>.int .u8 (sb.getD i 0).toNat) (fun hM=>?_) (by show _ < w'.heap.size;omega) hcc (.sl _ _ _ fun i j v hi hv=>?_) (fun i hi=>rfl) (fun i j hi hj=>?_) (fun i j v hi hv=>?_)
     ·have h3:w.heap.size < w.heap.size:=hho.lt _ hM
      omega
     ·have:=List.mem_of_getElem? hv
      rw[List.mem_singleton.1 this];exact .int _ _
     ·obtain rfl:j=0:=by omega
      rw[Nat.zero_add,Nat.mul_one,Nat.add_zero]
      have h5:=hel i hi
      show w'.cell? _=_
      rw[z6 hnew (Array.getElem?_eq_some_iff.1 h5).1,Array.getD_eq_getD_getElem?,h5]
      rfl
     ·have:=List.mem_of_getElem? hv
      rw[List.mem_singleton.1 this];exact .int _ _
  ·cases h
 ·cases h
def zbN (P:Program)(hp:Heap)(op:BinOp)(t:TypeId)(x y:V):Option (Prop×V) :=
 match P.underlying t,op,x,y with
 | some (.pointer _),.eql,.cptr _,.nilp=>some (True,.bool false)
 | some (.pointer _),.eql,.nilp,.nilp=>some (True,.bool true)
 | some (.pointer _),.eql,.ptr l _,.nilp=>match hp l with
   | some (.cells _)=>some (True,.bool false)
   | _=>none
 | _,_,_,_=>none
def binU (P:Program)(hp:Heap)(op:BinOp)(t:TypeId)(x y:V):Option (Prop×V):=match binV P op t x y with
 | some r=>some r
 | none=>zbN P hp op t x y
theorem zeM {P:Program}{t e:TypeId}(hu:P.underlying t=some (.pointer e))(d:Nat)(a:Addr)(w:World):(Op.equalIn (d+1) t (.pointer (some a)) (.pointer none)).run P w=.ok false w:=by
 simp only[Op.equalIn,Sem.run_bind,run_underlying hu,Result.andThen_ok,Sem.run_pure]
theorem zkS {P:Program}{t e:TypeId}(hu:P.underlying t=some (.pointer e))(d:Nat)(w:World):(Op.equalIn (d+1) t (.pointer none) (.pointer none)).run P w=.ok true w:=by
 simp only[Op.equalIn,Sem.run_bind,run_underlying hu,Result.andThen_ok,Sem.run_pure]
 rfl
theorem zja {P:Program}{k:K}(hk:HeapOk k){ρ:Operand→Value}{o:Oper}{op:BinOp}{t t':TypeId}{x y:Operand}(ho:o.op=.binOp op t x y t'){u v:V}
 (hx:R k u (ρ x)) (hy:R k v (ρ y)) {pre:Prop} {r:V} (h:zbN P k.hp op t u v=some (pre,r)) (hp:pre):∃ cv,(execOp ρ o).run P k.w=.ok (.value cv) k.w∧R k r cv:=by
 unfold zbN at h
 split at h
 ·rename_i e cs hu
  cases h
  have ey:=hy.nilp_inv
  generalize hq:ρ x=cx at hx
  cases hx with
  | cptr _ b off xx hM hb hpp hc hh =>
    refine⟨.bool false,?_,.bool _⟩
    have he:(Op.equal t (.pointer (some ⟨b,off,none⟩)) (.pointer none)).run P k.w=.ok false k.w:=zeM hu 9999 _ _
    simp[execOp,ho,hq,ey,eqGuard,binOp,he]
 ·rename_i e hu
  cases h
  have ey:=hy.nilp_inv
  have ex:=hx.nilp_inv
  refine⟨.bool true,?_,.bool _⟩
  have he:(Op.equal t (.pointer none) (.pointer none)).run P k.w=.ok true k.w:=zkS hu 9999 _
  simp[execOp,ho,ex,ey,eqGuard,binOp,he]
 ·rename_i e l off hu
  split at h
  ·rename_i cs hl
   cases h
   have ey:=hy.nilp_inv
   generalize hq:ρ x=cx at hx
   cases hx with
   | ptr _ _ _ h1 hn hh =>
     obtain⟨b,c,xs,ty,fz,g1,g2,g3,g4,g5⟩:=hk.obj l _ hl
     have e1:=hh cs hl
     refine⟨.bool false,?_,.bool _⟩
     rw[g1] at e1
     subst e1
     have he:(Op.equal t (.pointer (some ⟨b,off,none⟩)) (.pointer none)).run P k.w=.ok false k.w:=zeM hu 9999 _ _
     have e2:eptrVal (some (b,c)) off=.pointer (some ⟨b,off,none⟩):=rfl
     rw[e2] at hq
     simp[execOp,ho,hq,ey,eqGuard,binOp,he]
  ·cases h
 ·cases h
def iceS (P:Program)(s:St)(dst:Option Tmp)(t:TypeId)(len:Nat)(parts:List (Nat×V)):Option (Prop×V×Heap) :=
 match dst,yt P s dst t len parts with
 | some d,some (p,_,hp')=>match hp' (s.ck,d) with
   | some (.arr n sz get)=>some (p∧n=len,.sl len sz get,updH hp' (s.ck,d) .dead)
   | _=>none
 | _,_=>none
theorem iceS_ok {X:Cx}(hX:X.Ok){o:Oper}{t:TypeId}{len:Nat}{parts:Array (Nat×Operand)}{s:St}{Kn:St→Prop}(ho:o.op=.buildSlice t len parts){pre:Prop}{r:V}{hp':Heap}
 (h:iceS X.P s o.dst t len (parts.toList.map fun x=>(x.1,ev X s x.2))=some (pre,r,hp')) (hpre:pre)
 (hK:Kn ⟨s.ck,putTm s.tm o.dst r,hp'⟩):y5 X o s Kn:=by
 unfold iceS at h
 split at h
 ·rename_i d p v hp1 hd hb
  split at h
  ·rename_i n sz get hl
   simp only[Option.some.injEq,Prod.mk.injEq] at h
   obtain⟨rfl,rfl,rfl⟩:=h
   obtain⟨hp,rfl⟩:=hpre
   have hv:v=.msl (s.ck,d) 0 n:=by
    rw[hd] at hb
    unfold yt at hb
    split at hb
    ·rename_i e1 d1 hu hd1
     cases hd1
     split at hb
     ·split at hb
      ·split at hb
       ·simp only[Option.some.injEq,Prod.mk.injEq] at hb
        exact hb.2.1.symm
       ·cases hb
      ·cases hb
     ·cases hb
    ·cases hb
   subst hv
   intro a w hr next Q hn
   obtain⟨p',e1,e2⟩:=zcB hb
   have hpr:=zcA (hd ▸ hb) hp hl
   refine zaa hX ho e1 (e2 hp) (Kn:=fun s'=>s'=⟨s.ck,putTm s.tm o.dst (.msl (s.ck,d) 0 n),hp1⟩) rfl a w hr next Q fun s' a' w' hs' hr'=>?_
   subst hs'
   obtain⟨M,B,hst,hk,ht,hm⟩:=hr'
   obtain⟨M',B',q1,q2,q3⟩:=zc1 hk hl hpr
   have hown:∀ b,(mkK w' M B hp1 s.ck).owned b→(mkK w' M B hp1 s.ck).M b:=fun b hb=>(hk.own b hb).1
   refine hn _ _ _ hK ⟨M',B',hst.trans q1,q2,?_,hm.step q1⟩
   rw[hd] at ht ⊢
   refine⟨by simpa [putTm] using ht.1,fun i u hu=>?_⟩
   have hu2:(s.tm.set d (.sl n sz get))[i]?=some u:=hu
   rw[List.getElem?_set] at hu2
   by_cases e:d=i
   ·subst e
    split at hu2
    ·rename_i hlt
     split at hu2
     ·cases hu2
      refine q3 _ (ht.2 d _ ?_)
      show (s.tm.set d _)[d]?=_
      rw[List.getElem?_set]
      simp[*]
     ·cases hu2
    ·exact absurd rfl ‹_›
   ·simp only[e,if_false] at hu2
    refine(ht.2 i u ?_).step q1 hown
    show (s.tm.set d _)[i]?=_
    rw[List.getElem?_set]
    simp only[e,if_false]
    exact hu2
  ·cases h
 ·cases h
noncomputable def yD (X:Cx) (o:Oper) (s:St) (Kn:St→Prop):Prop :=
 match o.op with
 | .move x | .assign x=>Kn ⟨s.ck,putTm s.tm o.dst (ev X s x),s.hp⟩
 | .pick c a b=>zaw s o.dst (zjn (ev X s c) (ev X s a) (ev X s b)) Kn
 | .alloc t=>zaw s o.dst none Kn∨match tzero X.P t with
   | some z=>match zcC s o.dst z with
     | some (v,hp')=>Kn ⟨s.ck,putTm s.tm o.dst v,hp'⟩
     | none=>False
   | none=>False
 | .box _ x=>if zcv X o.dst=true then zax s o.dst (iceV (ev X s x)) Kn else match zcC s o.dst (ev X s x) with
   | some (v,hp')=>Kn ⟨s.ck,putTm s.tm o.dst v,hp'⟩
   | none=>False
 | .build t parts=>zaw s o.dst (zdc X.P t (parts.toList.map fun x=>(x.1,ev X s x.2))) Kn
 | .buildSlice t len parts=>if zcv X o.dst=true then zaU s o.dst (iceS X.P s o.dst t len (parts.toList.map fun x=>(x.1,ev X s x.2))) Kn else
  zaU s o.dst (wM X.P s o.dst t len (parts.toList.map fun x=>(x.1,ev X s x.2))) Kn
 | .load t x=>zaw s o.dst (ld X.P s.hp t (ev X s x)) Kn
 | .store t x y=>match sto X.P s.hp t (ev X s x) (ev X s y) with
   | some (p,hp')=>p∧Kn ⟨s.ck,putTm s.tm o.dst .top,hp'⟩
   | none=>False
 | .nilCheck x=>zaw s o.dst (y7 s.hp (ev X s x)) Kn
 | .binOp op t x y _=>zax s o.dst (binU X.P s.hp op t (ev X s x) (ev X s y)) Kn
 | .unOp op _ x=>zax s o.dst (unV op (ev X s x)) Kn
 | .convert src dst x=>match kn X.P s.hp src dst (ev X s x) with
   | some r=>zaU s o.dst (some r) Kn
   | none=>zax s o.dst (zcx X.P src dst (ev X s x)) Kn
 | .makeFunc f first cap=>Kn ⟨s.ck,putTm s.tm o.dst (.fn f (first.toList.map (ev X s)) (cap.toList.map (ev X s))),s.hp⟩
 | .makeSlice t len cap=>zaU s o.dst (yj X.P s o.dst t (ev X s len) (ev X s cap)) Kn
 | .slice t x lo hi none=>zax s o.dst (kB X.P s.hp t (ev X s x) (lo.map (ev X s)) (hi.map (ev X s))) Kn
 | .fieldAddr t x f=>zaw s o.dst (yI X.P s.hp t (ev X s x) f) Kn
 | .field t x f=>zaw s o.dst (zfF X.P t (ev X s x) f) Kn
 | .indexAddr t x i=>zax s o.dst (yH X.P s.hp t (ev X s x) (ev X s i)) Kn
 | .index t x i=>zax s o.dst (zd3 X.P t (ev X s x) (ev X s i)) Kn
 | .extract x i=>zaw s o.dst (qI (ev X s x) i) Kn
 | .lookup t x i false=>zax s o.dst (zfn X.P s.hp t (ev X s x) (ev X s i)) Kn
 | .lookup t x i true=>zax s o.dst (zfm X.P s.hp t (ev X s x) (ev X s i)) Kn
 | .mapUpdate t m k x=>match zgI X.P s.hp t (ev X s m) (ev X s k) (ev X s x) with
   | some (p,hp')=>p∧Kn ⟨s.ck,putTm s.tm o.dst .top,hp'⟩
   | none=>False
 | .insert t m k x=>match zgI X.P s.hp t (ev X s m) (ev X s k) (ev X s x) with
   | some (p,hp')=>p∧Kn ⟨s.ck,putTm s.tm o.dst .top,hp'⟩
   | none=>False
 | .makeMap t none=>jf s.hp∧∀ L,s.hp (0,L)=none→Kn ⟨s.ck,putTm s.tm o.dst (.mapp L),updH s.hp (0,L) (.raw (.map #[] 0))⟩
 | .range t x=>match X.P.underlying t,ev X s x with
   | some .string,.str str=>jf s.hp∧∀ L,s.hp (0,L)=none→Kn ⟨s.ck,putTm s.tm o.dst (.rawp L),updH s.hp (0,L) (.raw (.stringIter ⟨str.toArray⟩ 0))⟩
   | _,_=>False
 | .next x true=>match ev X s x with
   | .rawp L=>match s.hp (0,L) with
     | some (.raw (.stringIter b pos))=>(pos < b.size→Kn ⟨s.ck,putTm s.tm o.dst (.tup [.bool true,.int .i64 pos,.int .i32 (Utf8.decode b pos).1]),updH s.hp (0,L) (.raw (.stringIter b (pos+(Utf8.decode b pos).2)))⟩) ∧
      (b.size≤pos→Kn ⟨s.ck,putTm s.tm o.dst (.tup [.bool false]),s.hp⟩)
     | _=>False
   | _=>False
 | .call c=>match c.callee with
   | .value x=>qU X s o.dst (ev X s x) (c.args.toList.map (ev X s)) Kn
   | .builtin b=>wV X s o.dst b c.args.toList c.argTypes.toList Kn
   | _=>False
 | _=>False
theorem vS {X:Cx}(hX:X.Ok){o:Oper}{s:St}{Kn:St→Prop}{r:Option V}(h:zaw s o.dst r Kn)(hno:∀ c,o.op≠.defer c)
 (hr:∀ v,r=some v→∀ (k:K) (a:Act),HeapOk k→k.hp=s.hp→(∀ x,R k (ev X s x) (a.eval x))→∃ cv,(execOp a.eval o).run X.P k.w=.ok (.value cv) k.w∧R k v cv):y5 X o s Kn:=by
 cases r with
 | none=>exact h.elim
 | some v=>exact y5.of_val hX v hno (fun k a _ hho hhp hev=>hr v rfl k a hho hhp hev) h
theorem vA {X:Cx}(hX:X.Ok){o:Oper}{s:St}{Kn:St→Prop}{r:Option (Prop×V)}(h:zax s o.dst r Kn)(hno:∀ c,o.op≠.defer c)
 (hr:∀ p v,r=some (p,v)→p→∀ (k:K) (a:Act),HeapOk k→k.hp=s.hp→(∀ x,R k (ev X s x) (a.eval x))→∃ cv,(execOp a.eval o).run X.P k.w=.ok (.value cv) k.w∧R k v cv):y5 X o s Kn:=by
 cases r with
 | none=>exact h.elim
 | some pv=>obtain⟨p,v⟩:=pv;exact y5.of_val hX v hno (fun k a _ hho hhp hev=>hr p v rfl h.1 k a hho hhp hev) h.2
theorem zeb {X:Cx}(hX:X.Ok){o:Oper}{s:St}{Kn:St→Prop}(h:yD X o s Kn):y5 X o s Kn:=by
 unfold yD at h
 split at h
 ·rename_i x ho
  exact y5.of_val hX _ (by simp[ho]) (fun k a _ _ _ hev=>zhC (.inl ho) (hev x)) h
 ·rename_i x ho
  exact y5.of_val hX _ (by simp[ho]) (fun k a _ _ _ hev=>zhC (.inr ho) (hev x)) h
 ·rename_i c x y ho
  exact vS hX h (by simp[ho]) fun v hv k a hho hhp hev=>run_pick ho (hev c) (hev x) (hev y) hv
 ·rename_i t ho
  rcases h with h | h
  ·exact h.elim
  ·cases hz:tzero X.P t with
   | none=>simp[hz] at h
   | some z =>
     simp only[hz] at h
     cases hb:zcC s o.dst z with
     | none=>simp[hb] at h
     | some vh=>obtain⟨v,hp'⟩:=vh;simp only[hb] at h;exact zhd hX ho hz hb h
 ·rename_i t x ho
  split at h
  ·cases hi:iceV (ev X s x) with
   | none=>simp[hi,zax] at h
   | some r=>obtain⟨p,v⟩:=r;rw[hi] at h;exact ice_ok hX ho hi h.1 h.2
  ·cases hb:zcC s o.dst (ev X s x) with
   | none=>simp[hb] at h
   | some vh=>obtain⟨v,hp'⟩:=vh;simp only[hb] at h;exact box_ok hX ho hb h
 ·rename_i t parts ho
  exact vS hX h (by simp[ho]) fun v hv k a hho hhp hev=>zkU ho hev hv
 ·rename_i t len parts ho
  split at h
  ·cases hb:iceS X.P s o.dst t len (parts.toList.map fun x=>(x.1,ev X s x.2)) with
   | none=>simp[hb,zaU] at h
   | some r=>obtain⟨p,v,hp'⟩:=r;rw[hb] at h;exact iceS_ok hX ho hb h.1 h.2
  ·cases hb:wM X.P s o.dst t len (parts.toList.map fun x=>(x.1,ev X s x.2)) with
   | none=>simp[hb,zaU] at h
   | some r=>obtain⟨p,v,hp'⟩:=r;rw[hb] at h;exact zaa hX ho hb h.1 h.2
 ·rename_i t x ho
  exact vS hX h (by simp[ho]) fun v hv k a hho hhp hev=>zkO hho ho (hev x) (by rw[hhp];exact hv)
 ·rename_i t x y ho
  cases hb:sto X.P s.hp t (ev X s x) (ev X s y) with
  | none=>simp[hb] at h
  | some r=>obtain⟨p,hp'⟩:=r;simp only[hb] at h;exact zge hX ho hb h.1 h.2
 ·rename_i x ho
  exact vS hX h (by simp[ho]) fun v hv k a hho hhp hev=>zeJ hho ho (hev x) (by rw[hhp];exact hv)
 ·rename_i op t x y t' ho
  cases hb:binV X.P op t (ev X s x) (ev X s y) with
  | some r =>
    have e:binU X.P s.hp op t (ev X s x) (ev X s y)=binV X.P op t (ev X s x) (ev X s y):=by unfold binU;rw[hb]
    rw[e] at h
    exact vA hX h (by simp[ho]) fun p v hv hp k a hho hhp hev=>run_bin ho (hev x) (hev y) hv hp
  | none =>
    have e:binU X.P s.hp op t (ev X s x) (ev X s y)=zbN X.P s.hp op t (ev X s x) (ev X s y):=by unfold binU;rw[hb]
    rw[e] at h
    exact vA hX h (by simp[ho]) fun p v hv hp k a hho hhp hev=>zja hho ho (hev x) (hev y) (by rw[hhp];exact hv) hp
 ·rename_i op t x ho
  exact vA hX h (by simp[ho]) fun p v hv hp k a hho hhp hev=>run_un ho (hev x) hv hp
 ·rename_i src dst x ho
  cases hi:kn X.P s.hp src dst (ev X s x) with
  | some r =>
    obtain⟨p,v,hp'⟩:=r
    rw[hi] at h
    exact convI_ok hX ho hi h.1 h.2
  | none =>
  rw[hi] at h
  cases hb:zni X.P src dst (ev X s x) with
  | none =>
    have e:zcx X.P src dst (ev X s x)=znh X.P src dst (ev X s x):=by unfold zcx;rw[hb]
    rw[e] at h
    exact vA hX h (by simp[ho]) fun p v hv hp k a hho hhp hev=>run_conv ho (hev x) hv hp
  | some r =>
    obtain⟨p,v⟩:=r
    have e:zcx X.P src dst (ev X s x)=some (p,v):=by unfold zcx;rw[hb]
    rw[e] at h
    exact convB_ok hX ho hb h.1 h.2
 ·rename_i f first cap ho
  exact y5.of_val hX _ (by simp[ho]) (fun k a _ _ _ hev=>zeK ho hev) h
 ·rename_i t len cap ho
  cases hb:yj X.P s o.dst t (ev X s len) (ev X s cap) with
  | none=>simp[hb,zaU] at h
  | some r=>obtain⟨p,v,hp'⟩:=r;rw[hb] at h;exact zfl hX ho hb h.1 h.2
 ·rename_i t x lo hi ho
  exact vA hX h (by simp[ho]) fun p v hv hp k a hho hhp hev=>zkM hho ho hev (by rw[hhp];exact hv) hp
 ·rename_i t x f ho
  exact vS hX h (by simp[ho]) fun v hv k a hho hhp hev=>zdw hho ho (hev x) (by rw[hhp];exact hv)
 ·rename_i t x f ho
  exact vS hX h (by simp[ho]) fun v hv k a hho hhp hev=>zkQ ho (hev x) hv
 ·rename_i t x i ho
  exact vA hX h (by simp[ho]) fun p v hv hp k a hho hhp hev=>zdv hho ho (hev x) (hev i) (by rw[hhp];exact hv) hp
 ·rename_i t x i ho
  exact vA hX h (by simp[ho]) fun p v hv hp k a hho hhp hev=>zkP ho (hev x) (hev i) hv hp
 ·rename_i x i ho
  exact vS hX h (by simp[ho]) fun v hv k a hho hhp hev=>zgk ho (hev x) hv
 ·rename_i t x i ho
  exact vA hX h (by simp[ho]) fun p v hv hp k a hho hhp hev=>zjb hho ho (hev x) (hev i) (by rw[hhp];exact hv)
 ·rename_i t x i ho
  exact vA hX h (by simp[ho]) fun p v hv hp k a hho hhp hev=>zkN hho ho (hev x) (hev i) (by rw[hhp];exact hv)
 ·rename_i t m k x ho
  cases hb:zgI X.P s.hp t (ev X s m) (ev X s k) (ev X s x) with
  | none=>simp[hb] at h
  | some r=>obtain⟨p,hp'⟩:=r;rw[hb] at h;exact zbW hX ho hb h.2
 ·rename_i t m k x ho
  cases hb:zgI X.P s.hp t (ev X s m) (ev X s k) (ev X s x) with
  | none=>simp[hb] at h
  | some r=>obtain⟨p,hp'⟩:=r;rw[hb] at h;exact zfA hX ho hb h.2
 ·rename_i t ho
  exact zdU hX ho h.1 h.2
 ·rename_i t x ho
  split at h
  ·rename_i str ht hx
   exact zgr hX ho ht hx h.1 h.2
  ·exact h.elim
 ·rename_i x ho
  split at h
  ·rename_i L hx
   split at h
   ·rename_i b pos hl
    exact zjC hX ho hx hl h.1 h.2
   ·exact h.elim
  ·exact h.elim
 ·rename_i c ho
  split at h
  ·rename_i x hc
   unfold qU at h
   split at h
   ·rename_i f first cap hx
    split at h
    ·rename_i C hC
     exact zel hX ho hc hx h.1 (zcz hX (zkD hC) h.2.1 h.2.2)
    ·rcases h with h | h
     ·exact zel hX ho hc hx h.1 (h.2 hX)
     ·exact ext_ok hX ho hc hx h
   ·rename_i L hx
    exact h hX o c x ho hc hx rfl rfl
   ·exact h.elim
  ·rename_i b hc
   unfold wV at h
   have hop:∀ {args:List Operand} {ts:List TypeId},c.args.toList=args→c.argTypes.toList=ts→o.op=.call { callee:=.builtin b,args:=args.toArray,argTypes:=ts.toArray }:=by
    intro args ts h1 h2
    rw[ho]
    obtain⟨cc,ca,ct⟩:=c
    simp only at hc h1 h2
    subst hc
    subst h1
    subst h2
    simp
   split at h
   ·rename_i x t ha ht
    exact vA hX h (by simp[ho]) fun p v hv hp k a hho hhp hev=>run_len hho (hop ha ht) (hev x) (by rw[hhp];exact hv) hp
   ·rename_i x t ha ht
    exact vA hX h (by simp[ho]) fun p v hv hp k a hho hhp hev=>run_cap (hop ha ht) (hev x) (by rw[hhp];exact hv) hp
   ·rename_i x y t t2 ha ht
    split at h
    ·split at h
     ·exact zhb hX (hop ha ht) (zhc h)
     ·exact appB_ok hX (hop ha ht) (appB_of h)
    split at h
    ·cases hb:appendN X.P s o.dst t t2 (ev X s x) (ev X s y) with
     | none=>simp[hb,zaU] at h
     | some r=>obtain⟨p,v,hp'⟩:=r;rw[hb] at h;exact zkf hX (hop ha ht) hb h.1 h.2
    ·split at h
     ·cases hb:appendZ X.P s o.dst t t2 (ev X s x) (ev X s y) with
      | none=>simp[hb,zaU] at h
      | some r=>obtain⟨p,v,hp'⟩:=r;rw[hb] at h;exact zke hX (hop ha ht) hb h.1 h.2
     ·cases hb:vC X.P s o.dst t t2 (ev X s x) (ev X s y) with
      | none=>simp[hb,zaU] at h
      | some r=>obtain⟨p,v,hp'⟩:=r;rw[hb] at h;exact zns hX (hop ha ht) hb h.1 h.2
   ·rename_i x y t t2 ha ht
    split at h
    ·cases hb:copyB X.P s t (ev X s x) (ev X s y) with
     | none=>simp[hb,zaU] at h
     | some r=>obtain⟨p,v,hp'⟩:=r;rw[hb] at h;exact copyB_ok hX (hop ha ht) hb h.1 h.2
    ·cases hb:zk5 X.P s t (ev X s x) (ev X s y) with
     | none=>simp[hb,zaU] at h
     | some r=>obtain⟨p,v,hp'⟩:=r;rw[hb] at h;exact copy_ok hX (hop ha ht) hb h.1 h.2
   ·rename_i x t ha ht
    exact vS hX h (by simp[ho]) fun v hv k a hho hhp hev=>run_re (hop ha ht) (hev x) hv
   ·rename_i x t ha ht
    exact vS hX h (by simp[ho]) fun v hv k a hho hhp hev=>run_im (hop ha ht) (hev x) hv
   ·rename_i x y t t2 ha ht
    exact vA hX h (by simp[ho]) fun p v hv hp k a hho hhp hev=>run_cpx (hop ha ht) (hev x) (hev y) hv hp
   ·exact vS hX h (by simp[ho]) fun v hv k a hho hhp hev=>zkR (gr:=true) (args:=c.args) (ts:=c.argTypes) (by rw[ho];obtain⟨cc,ca,ct⟩:=c;simp only at hc;subst hc;rfl) hev hv
   ·exact vS hX h (by simp[ho]) fun v hv k a hho hhp hev=>zkR (gr:=false) (args:=c.args) (ts:=c.argTypes) (by rw[ho];obtain⟨cc,ca,ct⟩:=c;simp only at hc;subst hc;rfl) hev hv
   ·exact h.elim
  ·exact h.elim
 ·exact h.elim
end Go.Fly
end
