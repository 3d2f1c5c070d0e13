/- Part of a proof. No conditions. -/
import Derived.Test.YtkfbgillhhhdgaaGreatDoorAQ
import Derived.Deep.Slices
import Derived.OpenShut
import Derived.FnData
import Derived.Test.YtkfbgillhhhdgaaGreatDoorAL
import Derived.ProofKit
import Derived.LaidMore
import Derived.Stop.Joined
import Derived.ChangeArms
set_option linter.unusedSimpArgs false
set_option linter.unusedVariables false
section
namespace Go.Fly
open Go
def vg (P:Program)(W:World)(t:TypeId)(sz:Nat)(S:List V→Prop):Prop :=
 ∀ (H:Type) (enc:TypeId×Value→H) (held:Bool) (fuel:Nat) (cs:List Value) (x:DataW H×List MemPlace),DataW.trod enc P W 0 (fun _=>true) held fuel t cs=some x →
  ∃ g:List V,cs.length=sz∧g.length=sz∧(∀ v∈g,Pu v)∧(∀ (j:Nat) (v:V),g[j]?=some v→R (yN W (fun _=>False)) v (cs.getD j undef))∧S g
theorem zeR {P:Program}{W:World}{t:TypeId}(ht:P.underlying t=some .string):vg P W t 1 (fun g=>∃ s,s.length≤9223372036854775807∧g=[.str s]):=by
 intro H enc held fuel cs x h
 obtain⟨s,rfl,-,hw⟩:=DataW.trod_string ht h
 refine⟨[.str s.data.toList],rfl,rfl,fun v hv=>?_,fun j v hv=>?_,s.data.toList,?_,rfl⟩
 ·rw[List.mem_singleton] at hv;subst hv;exact .str _
 ·rcases j with _ | j
  ·cases hv
   have:(⟨s.data.toList.toArray⟩:ByteArray)=s:=by cases s;simp
   show R _ _ (.string s)
   rw[show Value.string s=.string ⟨s.data.toList.toArray⟩ by rw[this]]
   exact .str _
  ·simp at hv
 ·have:s.data.toList.length=s.size:=Array.length_toList
  rw[this]
  exact hw
theorem zgq {P:Program}{W:World}{t e:TypeId}{sz:Nat}{S:List V→Prop}(ht:P.underlying t=some (.slice e))(hc:P.cellsOf e=sz)(hsz:0 < sz)(he:vg P W e sz S) :
 vg P W t 1 (fun g=>∃ n get,n≤9223372036854775807∧(∀ i,i < n→S (get i))∧g=[.sl n sz get]):=by
 intro H enc held fuel cs x h
 rcases Deep.open_slice ht h with⟨rfl,-⟩ | ⟨a,len,cap,m,n,D,Pl,rfl,-,hl,hm,hmm,-,hx⟩
 ·refine⟨[.sl 0 sz (fun _=>[])],rfl,rfl,fun v hv=>?_,fun j v hv=>?_,0,_,by decide,fun i hi=>absurd hi (Nat.not_lt_zero _),rfl⟩
  ·rw[List.mem_singleton] at hv;subst hv;exact .sl _ _ _ fun i j v hi=>absurd hi (Nat.not_lt_zero _)
  ·rcases j with _ | j
   ·cases hv;exact .sl0 _ _ _ _
   ·simp at hv
 ·have hmc:m=cap:=hmm.trans (if_pos rfl)
  subst hmc
  rw[hc] at hx
  have hel:∀ i,i < len→∃ p:List Value×List V,W.cells? 0 (a.add (i * sz)) sz=some p.1∧p.1.length=sz∧p.2.length=sz∧(∀ v∈p.2,Pu v)∧(∀ (j:Nat) (v:V),p.2[j]?=some v→R (yN W (fun _=>False)) v (p.1.getD j undef))∧S p.2:=fun i hi=>by
   obtain⟨cs',h1,h2⟩:=hx i (by omega)
   obtain⟨g,g1,g2,g3,g4,g5⟩:=he H enc held n cs' _ h2
   exact⟨(cs',g),h1,g1,g2,g3,g4,g5⟩
  obtain⟨F,hF⟩:=Deep.choose_lt (α:=List Value×List V) (p:=fun i p=>W.cells? 0 (a.add (i * sz)) sz=some p.1∧p.1.length=sz∧p.2.length=sz∧(∀ v∈p.2,Pu v)∧(∀ (j:Nat) (v:V),p.2[j]?=some v→R (yN W (fun _=>False)) v (p.1.getD j undef))∧S p.2) hel
  have hpu:Pu (.sl len sz fun i=>(F i).2):=.sl _ _ _ fun i j v hi hv=>(hF i hi).2.2.2.1 v (yi hv)
  refine⟨[.sl len sz fun i=>(F i).2],rfl,rfl,fun v hv=>?_,fun j v hv=>?_,len,_,?_,fun i hi=>(hF i hi).2.2.2.2.2,rfl⟩
  ·rw[List.mem_singleton] at hv;subst hv;exact hpu
  ·rcases j with _ | j
   ·cases hv
    show R _ _ (.slice (some a) len m)
    rcases Nat.eq_zero_or_pos len with h0 | hpos
    ·subst h0;exact .sl0 _ _ _ _
    ·have hcell:∀ i j,i < len→j < sz→W.cell? ((a.add (i * sz)).add j)=some ((F i).1.getD j undef):=fun i j hi hj=>by
      obtain⟨q1,q2,-⟩:=hF i hi
      obtain⟨-,-,q3⟩:=World.cells?_some q1
      rw[q3 j hj,List.getD_eq_getElem?_getD,List.getElem?_eq_getElem (by omega)]
      rfl
     have h00:=hcell 0 0 hpos hsz
     have hspot:a.spot=none:=by
      rw[Deep.add_add,Nat.zero_mul] at h00
      unfold World.cell? Addr.add at h00
      simp only[Nat.add_zero,ite_true] at h00
      split at h00
      ·split at h00
       ·cases h00
       ·rename_i q;simpa using q
      ·cases h00
     obtain⟨b,off,spot⟩:=a
     simp only at hspot
     subst hspot
     have hadd:∀ k,(Addr.add ⟨b,off,none⟩ k)=⟨b,off+k,none⟩:=fun k=>by
      unfold Addr.add
      split
      ·rename_i q;subst q;rfl
      ·rfl
     have hc2:∀ i j,i < len→j < sz→W.cell? ⟨b,off+i * sz+j,none⟩=some ((F i).1.getD j undef):=fun i j hi hj=>by
      have:=hcell i j hi hj
      rw[Deep.add_add,hadd,← Nat.add_assoc] at this
      exact this
     exact .sl len sz _ b off m (fun i j=>(F i).1.getD j undef) (fun q=>q) (World.lt_of_cell (hc2 0 0 hpos hsz)) hl hpu (fun i hi=>(hF i hi).2.2.1) hc2 (fun i j v hi hv=>(hF i hi).2.2.2.2.1 j v hv)
   ·simp at hv
  ·have:(maxLen:Nat)=9223372036854775807:=by decide
   omega
def Seq:List (TypeId×Nat×(List V→Prop))→List V→Prop
 | [],g=>g=[]
 | x::r,g=>∃ a b,x.2.2 a∧Seq r b∧g=a++b
def zgh:List (TypeId×Nat×(List V→Prop))→Nat
 | []=>0
 | x::r=>x.2.1+zgh r
def SeqAt (tr:TypeId→List Value→Prop)(cs:List Value):Nat→List (TypeId×Nat×(List V→Prop))→Prop
 | _,[]=>True
 | o,x::r=>tr x.1 ((cs.drop o).take x.2.1)∧SeqAt tr cs (o+x.2.1) r
def zeq (P:Program)(W:World):List (TypeId×Nat×(List V→Prop))→Prop
 | []=>True
 | x::r=>vg P W x.1 x.2.1 x.2.2∧zeq P W r
theorem zeH {P:Program}{W:World}{H:Type}{enc:TypeId×Value→H}{held:Bool}{fuel:Nat}{cs:List Value}:∀ {L:List (TypeId×Nat×(List V→Prop))} {o:Nat},zeq P W L→o+zgh L=cs.length →
 SeqAt (fun t c=>∃ x,DataW.trod enc P W 0 (fun _=>true) held fuel t c=some x) cs o L →
 ∃ g:List V,g.length=zgh L∧(∀ v∈g,Pu v)∧(∀ (j:Nat) (v:V),g[j]?=some v→R (yN W (fun _=>False)) v (cs.getD (o+j) undef))∧Seq L g
 | [],o,_,_,_=>⟨[],rfl,fun v hv=>(by cases hv),fun j v hv=>(by simp at hv),rfl⟩
 | (t,sz,S)::r,o,⟨hr,hrr⟩,hlen,⟨⟨x,hx⟩,hrest⟩=>by
   obtain⟨g1,a1,a2,a3,a4,a5⟩:=hr H enc held fuel _ x hx
   have a2:g1.length=sz:=a2
   have a1:((cs.drop o).take sz).length=sz:=a1
   have hlen:o+(sz+zgh r)=cs.length:=hlen
   obtain⟨g2,b1,b2,b3,b4⟩:=zeH (L:=r) (o:=o+sz) hrr (by omega) hrest
   have b3:∀ (j:Nat) (v:V),g2[j]?=some v→R (yN W (fun _=>False)) v (cs.getD (o+sz+j) undef):=b3
   refine⟨g1++g2,by simp[zgh,a2,b1],fun v hv=>?_,fun j v hv=>?_,g1,g2,a5,b4,rfl⟩
   ·rcases List.mem_append.1 hv with q | q
    ·exact a3 v q
    ·exact b2 v q
   ·rcases Nat.lt_or_ge j sz with q | q
    ·rw[List.getElem?_append_left (by omega)] at hv
     have:=a4 j v hv
     have e:((cs.drop o).take sz).getD j undef=cs.getD (o+j) undef:=by
      simp only[List.getD_eq_getElem?_getD]
      rw[List.getElem?_take_of_lt q,List.getElem?_drop]
     rw[e] at this
     exact this
    ·rw[List.getElem?_append_right (by omega),a2] at hv
     have:=b3 (j - sz) v hv
     rw[show o+sz+(j - sz)=o+j by omega] at this
     exact this
theorem zeQ {P:Program}{W:World}{t:TypeId}{fs:Array Field}(L:List (TypeId×Nat×(List V→Prop)))(ht:P.underlying t=some (.struct fs))(hc:P.cellsOf t=zgh L)(hr:zeq P W L)
 (hat:∀ (tr:TypeId→List Value→Prop) (cs:List Value),(∀ (i:Nat) (f:Field),fs[i]?=some f→tr f.type ((cs.drop f.offset).take (P.cellsOf f.type)))→SeqAt tr cs 0 L):vg P W t (zgh L) (Seq L):=by
 intro H enc held fuel cs x h
 obtain⟨xs,n,-,-,h1,h2,h3⟩:=DataW.trod_struct ht h
 have:=hat (fun t c=>∃ x,DataW.trod enc P W 0 (fun _=>true) held n t c=some x) cs fun i f hf=>by
  have hi:i < xs.length:=by
   rw[h2]
   rcases Nat.lt_or_ge i fs.size with q | q
   ·exact q
   ·rw[Array.getElem?_eq_none q] at hf;cases hf
  exact⟨xs[i],by rw[h3 i f hf,List.getElem?_eq_getElem hi]⟩
 obtain⟨g,g1,g2,g3,g4⟩:=zeH (o:=0) hr (by rw[Nat.zero_add,h1,hc]) this
 exact⟨g,h1.trans hc,g1,g2,fun j v hv=>by have:=g3 j v hv;rwa [Nat.zero_add] at this,g4⟩
theorem zm7 {P:Program}{W:World}{H:Type}{enc:TypeId×Value→H}{held:Bool}{fuel:Nat}{t e:TypeId}{n:Nat}{cs:List Value}{zs:List Int}{p:List MemPlace}
 (ht:P.underlying t=some (.array n e)) (he:P.underlying e=some (.int .i64)) (hc:P.cellsOf e=1) (hct:P.cellsOf t=n)
 (h:DataW.trod enc P W 0 (fun _=>true) held fuel t cs=some (.agg (zs.map fun z=>.lit (.int .i64 z)),p)):∀ j,j < zs.length→cs[j]?=some (.int .i64 (zs.getD j 0)):=by
 obtain⟨xs,m,-,hx,h1,h2,h3⟩:=DataW.trod_array ht h
 intro j hj
 simp only[Prod.mk.injEq,DataW.agg.injEq] at hx
 have hlen:zs.length=xs.length:=by have:=congrArg List.length hx.1;simpa using this
 have hj2:j < n:=by omega
 have h4:=h3 j hj2
 rw[hc,Nat.mul_one,List.getElem?_eq_getElem (by omega)] at h4
 obtain⟨z,q1,q2,-⟩:=DataW.trod_int he h4
 have e1:(zs.map fun z=>(DataW.lit (.int .i64 z):DataW H))[j]?=(xs.map (·.1))[j]?:=by rw[hx.1]
 rw[List.getElem?_map,List.getElem?_map,List.getElem?_eq_getElem hj,List.getElem?_eq_getElem (by omega:j < xs.length),q2] at e1
 simp only[Option.map_some,Option.some.injEq,DataW.lit.injEq,Lit.int.injEq,true_and] at e1
 have e2:cs[j]?=((cs.drop j).take 1)[0]?:=by rw[List.getElem?_take_of_lt (by decide),List.getElem?_drop,Nat.add_zero]
 rw[e2,q1,List.getD_eq_getElem?_getD,List.getElem?_eq_getElem hj]
 simp[e1]
end Go.Fly
end
section
namespace Go.Fly.Off
open Go Go.ChangeShapes Go.WideShapes Go.RowKit
theorem vg.mono {P:Program}{W:World}{t:TypeId}{sz:Nat}{S S':List V→Prop}(h:vg P W t sz S)(hs:∀ g,S g→S' g):vg P W t sz S':=fun H enc held fuel cs x hx=>by
 obtain⟨g,h1,h2,h3,h4,h5⟩:=h H enc held fuel cs x hx
 exact⟨g,h1,h2,h3,h4,hs g h5⟩
theorem zcL {P:Program}{W:World}{t:TypeId}{k:IntKind}(ht:P.underlying t=some (.int k)):vg P W t 1 (fun g=>∃ n,inK k n∧g=[.int k n]):=by
 intro H enc held fuel cs x h
 obtain⟨n,rfl,-,hw⟩:=DataW.trod_int ht h
 refine⟨[.int k n],rfl,rfl,fun v hv=>?_,fun j v hv=>?_,n,?_,rfl⟩
 ·rw[List.mem_singleton] at hv;subst hv;exact .int _ _
 ·rcases j with _ | j
  ·cases hv;exact .int _ _
  ·simp at hv
 ·simp only[Lit.wf,Bool.and_eq_true,decide_eq_true_eq] at hw
  exact hw
theorem zaj {P:Program}{W:World}{t e:TypeId}{sz:Nat}{S:List V→Prop}{α:Type}[Inhabited α]{f:α→List V}{Q:α→Prop}(ht:P.underlying t=some (.slice e))(hc:P.cellsOf e=sz)(hsz:0 < sz)(he:vg P W e sz S)(hS:∀ g,S g→∃ x,Q x∧g=f x)(hpu:∀ x,∀ v∈f x,Pu v) :
 vg P W t 1 (fun g=>∃ l:List α,l.length≤9223372036854775807∧(∀ x∈l,Q x)∧g=[zf sz f l]):=by
 intro H enc held fuel cs x h
 obtain⟨g,h1,h2,h3,h4,n,get,hn,hi,rfl⟩:=zgq ht hc hsz he H enc held fuel cs x h
 obtain⟨F,hF⟩:=Deep.choose_lt (α:=α) (p:=fun i x=>Q x∧get i=f x) (n:=n) fun i h=>by
  obtain⟨x,q1,q2⟩:=hS _ (hi i h)
  exact⟨x,q1,q2⟩
 have hl:((List.range n).map F).length=n:=by simp
 have hel:∀ i,i < n→el ((List.range n).map F) i=F i:=fun i h=>by simp[el,h]
 have hv:zo (.sl n sz get) (zf sz f ((List.range n).map F)):=by
  unfold zf
  rw[hl]
  exact zo.sl fun i h=>by rw[hel i h];exact(hF i h).2
 refine⟨[zf sz f ((List.range n).map F)],h1,rfl,fun v hv=>?_,fun j v hv2=>?_,(List.range n).map F,by rw[hl];exact hn,fun x hx=>?_,rfl⟩
 ·rw[List.mem_singleton] at hv;subst hv;exact vL hpu _
 ·rcases j with _ | j
  ·cases hv2;exact hv _ _ (h4 0 _ rfl)
  ·simp at hv2
 ·obtain⟨i,hi,rfl⟩:=List.mem_map.1 hx
  exact(hF i (List.mem_range.1 hi)).1
def SI:List V→Prop:=fun g=>∃ n,inK .i64 n∧g=[.int .i64 n]
def SS:List V→Prop:=fun g=>∃ s,s.length≤9223372036854775807∧g=[.str s]
def SStrs:List V→Prop:=fun g=>∃ l:List Str,l.length≤9223372036854775807∧(∀ s∈l,s.length≤9223372036854775807)∧g=[zg l]
def SInts:List V→Prop:=fun g=>∃ l:List Int,l.length≤9223372036854775807∧(∀ n∈l,inK .i64 n)∧g=[zh l]
structure EvGo (e:Ev):Prop where
 num:inK .i64 e.num
 names:e.names.length≤9223372036854775807
 vals:e.vals.length≤9223372036854775807
 strs:∀ s∈e.names,s.length≤9223372036854775807
 ints:∀ n∈e.vals,inK .i64 n
 kind:e.kind.length≤9223372036854775807
 text:e.text.length≤9223372036854775807
def SEv:List V→Prop:=fun g=>∃ e,EvGo e∧g=encEv e
def SEvs:List V→Prop:=fun g=>∃ l:List Ev,l.length≤9223372036854775807∧(∀ e∈l,EvGo e)∧g=[zf 5 encEv l]
theorem zjh {P:Program}{W:World}{t e:TypeId}(ht:P.underlying t=some (.slice e))(hc:P.cellsOf e=1)(he:P.underlying e=some .string):vg P W t 1 SStrs :=
 vg.mono (zaj (f:=fun s:Str=>[.str s]) (Q:=fun s=>s.length≤9223372036854775807) ht hc (by decide) (zeR he) (fun g ⟨s,h,e⟩=>⟨s,h,e⟩) fun s v hv=>by rw[List.mem_singleton.1 hv];exact .str _) fun g h=>h
theorem zji {P:Program}{W:World}{t e:TypeId}(ht:P.underlying t=some (.slice e))(hc:P.cellsOf e=1)(he:P.underlying e=some (.int .i64)):vg P W t 1 SInts :=
 vg.mono (zaj (f:=fun n:Int=>[.int .i64 n]) (Q:=inK .i64) ht hc (by decide) (zcL he) (fun g ⟨s,h,e⟩=>⟨s,h,e⟩) fun s v hv=>by rw[List.mem_singleton.1 hv];exact .int _ _) fun g h=>h
theorem seq_ev {a b c d f:TypeId}{g:List V}(h:Seq [(a,1,SI),(b,1,SS),(c,1,SStrs),(d,1,SInts),(f,1,SS)] g):SEv g:=by
 obtain⟨_,_,⟨n,hn,rfl⟩,⟨_,_,⟨k,hk,rfl⟩,⟨_,_,⟨l,hl,hl2,rfl⟩,⟨_,_,⟨m,hm,hm2,rfl⟩,⟨_,_,⟨s,hs,rfl⟩,rfl,rfl⟩,rfl⟩,rfl⟩,rfl⟩,rfl⟩:=h
 exact⟨⟨n,k,l,m,s⟩,⟨hn,hl,hm,hl2,hm2,hk,hs⟩,rfl⟩
theorem zl4 {P:Program}{W:World}{t e:TypeId}(ht:P.underlying t=some (.slice e))(hc:P.cellsOf e=5)(he:vg P W e 5 SEv):vg P W t 1 SEvs :=
 vg.mono (zaj (f:=encEv) (Q:=EvGo) ht hc (by decide) he (fun g ⟨s,h,e⟩=>⟨s,h,e⟩) fun s=>(yC s).pu) fun g h=>h
theorem sl_arg {P:Program}{W:World}{base:Nat}{t e:TypeId}{S:List V→Prop}{H:Type}{enc:TypeId×Value→H}{v:Value}{d:DataW H}{ps:List MemPlace}
 (ht:P.underlying t=some (.slice e)) (hr:vg P W t 1 S) (hv:Value.okWide P W .any base t v) (h:DataW.Trod enc P W 0 (fun _=>true) true t v d ps):∃ a,S [a]∧Pu a∧R (yN W (fun _=>False)) a v:=by
 obtain⟨a0,len,cap,rfl⟩:=okWide_slice ht hv
 obtain⟨fuel,hf⟩:=h
 obtain⟨g,h1,h2,h3,h4,h5⟩:=hr H enc true fuel _ _ hf
 match g,h2 with
 | [a],_=>exact⟨a,h5,h3 a (by simp),h4 0 a rfl⟩
theorem agg_arg {P:Program}{W:World}{base:Nat}{t:TypeId}{fs:Array Field}{sz:Nat}{S:List V→Prop}{H:Type}{enc:TypeId×Value→H}{v:Value}{d:DataW H}{ps:List MemPlace}
 (ht:P.underlying t=some (.struct fs)) (hr:vg P W t sz S) (hv:Value.okWide P W .any base t v) (h:DataW.Trod enc P W 0 (fun _=>true) true t v d ps):∃ g,S g∧Pu (.agg g)∧R (yN W (fun _=>False)) (.agg g) v:=by
 unfold Value.okWide at hv
 rw[ht] at hv
 obtain⟨cs,rfl,-,-⟩:=hv
 obtain⟨fuel,hf⟩:=h
 obtain⟨g,h1,h2,h3,h4,h5⟩:=hr H enc true fuel _ _ hf
 refine⟨g,h5,zhN.2 h3,.agg _ _ ?_ fun j v hv=>?_⟩
 ·have:cs.toList.length=sz:=h1
  rw[h2,← this,Array.length_toList]
 ·have:=h4 j v hv
  have e:cs.toList.getD j undef=cs.getD j undef:=by simp[Array.getD_eq_getD_getElem?,List.getD_eq_getElem?_getD]
  have e2:(Value.cells (.agg cs)).toList=cs.toList:=rfl
  rw[e2,e] at this
  exact this
end Go.Fly.Off
end
