/- Part of a proof. No conditions. -/
import Derived.Test.YtkfbgillhhhdgaaGreatDoorAB
set_option linter.unusedSimpArgs false
set_option linter.unusedVariables false
section
namespace Go.Fly
open Go
def tzero (P:Program)(t:TypeId):Option V:=((P.info? t).bind (·.zero)).map ofValue
theorem jF {P:Program}{k:K}{t:TypeId}{z:V}(h:tzero P t=some z)(w:World):∃ cz,(zeroValue t).run P w=.ok cz w∧R k z cz∧cellsV z=cellsV (ofValue cz)∧z=ofValue cz:=by
 unfold tzero at h
 cases hi:P.info? t with
 | none=>simp[hi] at h
 | some i =>
   simp only[hi,Option.bind_some,Option.map_eq_some_iff] at h
   obtain⟨cz,hz,rfl⟩:=h
   exact⟨cz,by simp[zeroValue,typeInfo,hi,hz],qn k cz,rfl,rfl⟩
theorem qR {P:Program}(w:World):∀ fs:List Field,fs.all (fun f=>(tagg P f.type).isSome)=true →
 (fs.mapM fun f=>do pure (f.offset,← sizeOf f.type):Sem (List (Nat×Nat))).run P w=.ok (fs.map fun f=>(f.offset,tsz P f.type)) w
 | [],_=>by simp
 | f::fs,h=>by
   simp only[List.all_cons,Bool.and_eq_true] at h
   obtain⟨b,hb⟩:=Option.isSome_iff_exists.1 h.1
   have ih:=qR w fs h.2
   simp only[List.mapM_cons,Sem.run_bind,Sem.run_pure,Result.andThen_ok,zD hb,ih,List.map_cons]
def zdc (P:Program)(t:TypeId)(parts:List (Nat×V)):Option V :=
 match tzero P t,P.underlying t with
 | some (.agg z),some (.struct fs)=>if fs.toList.all (fun f=>(tagg P f.type).isSome)=true then (zb0 (fun i=>(fs.toList[i]?).map fun f=>(f.offset,tsz P f.type)) z parts).map .agg else none
 | some (.agg z),some (.array _ e)=>if (tagg P e).isSome=true then (zb0 (fun i=>some (i * tsz P e,tsz P e)) z parts).map .agg else none
 | _,_=>none
theorem zlo {k:K}{ev:Operand→V}{ρ:Operand→Value}(hev:∀ y,R k (ev y) (ρ y))(parts:Array (Nat×Operand)) :
 (parts.toList.map fun x=>(x.1,ev x.2)).map (·.1)=(parts.map fun(i,x)=>(i,ρ x)).toList.map (·.1) ∧
 ∀ (j:Nat) (p:Nat×V) (q:Nat×Value),(parts.toList.map fun x=>(x.1,ev x.2))[j]?=some p→((parts.map fun(i,x)=>(i,ρ x)).toList)[j]?=some q→R k p.2 q.2:=by
 refine⟨by simp,fun j p q hp hq=>?_⟩
 obtain⟨x,hx,rfl⟩:=wm hp
 simp only[Array.toList_map] at hq
 obtain⟨y,hy,rfl⟩:=wm hq
 rw[hx] at hy
 cases hy
 exact hev _
theorem zkU {P:Program}{k:K}{ρ:Operand→Value}{o:Oper}{t:TypeId}{parts:Array (Nat×Operand)}(ho:o.op=.build t parts){ev:Operand→V}(hev:∀ y,R k (ev y) (ρ y)){r:V}
 (h:zdc P t (parts.toList.map fun x=>(x.1,ev x.2))=some r):∃ cv,(execOp ρ o).run P k.w=.ok (.value cv) k.w∧R k r cv:=by
 obtain⟨hp1,hp2⟩:=zlo hev parts
 unfold zdc at h
 split at h
 ·rename_i z fs hz hu
  split at h
  ·rename_i hall
   simp only[Option.map_eq_some_iff] at h
   obtain⟨cs,hcs,rfl⟩:=h
   obtain⟨cz,e1,e2,e3,e4⟩:=jF (k:=k) hz k.w
   obtain⟨xs,rfl,hsz,hr⟩:=e2.agg_inv
   obtain⟨cr,f1,f2,f3⟩:=ze9 _ _ _ z xs cs hp1 hp2 hsz hr hcs
   refine⟨.agg cr,?_,.agg _ _ f2 f3⟩
   have hm:=qR (P:=P) k.w fs.toList hall
   have hpl:(fun x:Nat=>((fs.toList.map fun f=>(f.offset,tsz P f.type)).toArray)[x]?)=fun i=>(fs.toList[i]?).map fun f=>(f.offset,tsz P f.type):=by
    funext i;simp
   simp only[execOp,ho,Instr.build,Sem.run_bind,e1,Result.andThen_ok,run_underlying hu]
   rw[Array.mapM_eq_mapM_toList]
   simp only[Sem.run_map,hm,Result.andThen_ok,hpl]
   rw[show (Value.agg xs).cells=xs from rfl,f1]
   simp
  ·cases h
 ·rename_i z n e hz hu
  split at h
  ·rename_i hs
   simp only[Option.map_eq_some_iff] at h
   obtain⟨cs,hcs,rfl⟩:=h
   obtain⟨b,hb⟩:=Option.isSome_iff_exists.1 hs
   obtain⟨cz,e1,e2,e3,e4⟩:=jF (k:=k) hz k.w
   obtain⟨xs,rfl,hsz,hr⟩:=e2.agg_inv
   obtain⟨cr,f1,f2,f3⟩:=ze9 _ _ _ z xs cs hp1 hp2 hsz hr hcs
   refine⟨.agg cr,?_,.agg _ _ f2 f3⟩
   simp only[execOp,ho,Instr.build,Sem.run_bind,e1,Result.andThen_ok,run_underlying hu,zD hb]
   rw[show (Value.agg xs).cells=xs from rfl,f1]
   simp
  ·cases h
 ·cases h
theorem zfh {w:World}{M:Nat→Prop}{B:Loc→Option (Nat×Nat)}{hp:Heap}{ck:Nat}(hk:HeapOk (mkK w M B hp ck)){l:Loc}(hl:hp l=none)(hck:l.1=ck)
 {cs:List V} {xs:Array Value} (ty:TypeId) (hs:xs.size=cs.length) (hr:∀ (j:Nat) (v:V),cs[j]?=some v→R (mkK w M B hp ck) v (xs.getD j undef)) :
 let k':=mkK (w.alloc (.cells xs ty)) (fun b=>M b∨b=w.heap.size) (yl B l (some (w.heap.size,0))) (updH hp l (.cells cs)) ck
 Step (mkK w M B hp ck) k'∧HeapOk k'∧R k' (.ptr l 0) (.pointer (some ⟨w.heap.size,0,none⟩)):=by
 intro k'
 have h:=zeo hk hl hck xs ty 0 (.cells cs) (fun k2 hB hh st=>⟨w.heap.size,0,xs,ty,(0,0),hB,hh,fun o=>by simp,hs,fun j v hv=>(hr j v hv).step st fun b hb=>(hk.own b hb).1⟩)
 refine⟨h.1,h.2,.ptr _ _ _ rfl (.inr ⟨hck,by show (updH hp l _ l).isSome=true;rw[zd];rfl⟩) fun cs' hcs'=>?_⟩
 show _=eptrVal (yl B l _ l) 0
 rw[zR];rfl
def zcC (s:St)(dst:Option Tmp)(v:V):Option (V×Heap) :=
 match dst,cellsV v with
 | some d,some cs=>match s.hp (s.ck,d) with
   | none=>some (.ptr (s.ck,d) 0,updH s.hp (s.ck,d) (.cells cs))
   | some _=>none
 | _,_=>none
theorem box_ok {X:Cx}(hX:X.Ok){o:Oper}{t:TypeId}{x:Operand}{s:St}{Kn:St→Prop}(ho:o.op=.box t x){r:V}{hp':Heap}(h:zcC s o.dst (ev X s x)=some (r,hp'))
 (hK:Kn ⟨s.ck,putTm s.tm o.dst r,hp'⟩):y5 X o s Kn:=by
 refine y5.of_run r hp' (by simp[ho]) (fun M B a w hst hho htm=>?_) hK
 have hx:=zcw hX (ds:=a.defers) hst htm x
 unfold zcC at h
 split at h
 ·rename_i d cs hd hcs
  split at h
  ·rename_i hfree
   simp only[Option.some.injEq,Prod.mk.injEq] at h
   obtain⟨rfl,rfl⟩:=h
   obtain⟨h1,h2⟩:=vH hx hcs
   obtain⟨q1,q2,q3⟩:=zfh hho (l:=(s.ck,d)) hfree rfl t h1 h2
   exact⟨_,_,_,_,by simp[execOp,ho,Instr.box,newVar,newRow],q1,q2,q3⟩
  ·cases h
 ·cases h
def iceV (v:V):Option (Prop×V):=(cellsV v).map fun cs=>(∀ c∈cs,Pu c,.cptr cs)
theorem ice_ok {X:Cx}(hX:X.Ok){o:Oper}{t:TypeId}{x:Operand}{s:St}{Kn:St→Prop}(ho:o.op=.box t x){p:Prop}{r:V}(h:iceV (ev X s x)=some (p,r))(hp:p)
 (hK:Kn ⟨s.ck,putTm s.tm o.dst r,s.hp⟩):y5 X o s Kn:=by
 refine y5.of_run r s.hp (by simp[ho]) (fun M B a w hst hho htm=>?_) hK
 have hx:=zcw hX (ds:=a.defers) hst htm x
 unfold iceV at h
 cases hc:cellsV (ev X s x) with
 | none=>simp[hc] at h
 | some cs =>
   simp only[hc,Option.map_some,Option.some.injEq,Prod.mk.injEq] at h
   obtain⟨rfl,rfl⟩:=h
   obtain⟨h1,h2⟩:=vH hx hc
   let w':=w.alloc (.cells (a.eval x).cells t)
   have hsz:w'.heap.size=w.heap.size+1:=World.size_alloc w _
   have hho0:=hho
   have ho':∀ b,(mkK w M B s.hp s.ck).owned b→b < w.heap.size:=fun b hb=>(hho.own b hb).2
   have st:Step (mkK w M B s.hp s.ck) (mkK w' M B s.hp s.ck) :=
    ⟨rfl,rfl,rfl,by show w.heap.size≤w'.heap.size;omega,fun b hb _=>wR hb,fun b hb=>.inl hb,fun _ _ h=>h,fun _ _ _ h=>h,fun _ h=>h,
     fun l hl o' ho'=>(Step.refl (mkK w M B s.hp s.ck)).names l hl o' ho'⟩
   have hown:∀ b,(mkK w M B s.hp s.ck).owned b→(mkK w M B s.hp s.ck).M b:=fun b hb=>(hho.own b hb).1
   refine⟨.pointer (some ⟨w.heap.size,0,none⟩),w',M,B,by simp[execOp,ho,Instr.box,newVar,newRow,w'],st,⟨fun b hb=>?_,fun b hb=>?_,hho.nm,hho.inj,fun l ob hl=>?_⟩,?_⟩
   ·have:=hho.lt b hb
    have h3:b < w.heap.size:=this
    show b < w'.heap.size
    omega
   ·have:=hho.own b hb
    have h3:b < w.heap.size:=this.2
    exact⟨this.1,by show b < w'.heap.size;omega⟩
   ·exact ObjOk.step st hho hl hl rfl fun b c hb=>wR (hho.own b ⟨l,ob,c,hl,hb⟩).2
   ·refine .cptr cs w.heap.size 0 (fun j=>(a.eval x).cells.getD j undef) (fun hM=>?_) (by show _ < w'.heap.size;omega) (.cptr _ fun j v hv=>hp v (yi hv)) (fun j hj=>?_) fun j v hv=>(h2 j v hv).step st hown
    ·have:=hho.lt _ hM
     have h3:w.heap.size < w.heap.size:=this
     omega
    ·rw[Nat.zero_add]
     exact z6 (World.alloc_heap_new w _) (by rw[h1];exact hj)
theorem zhd {X:Cx}(hX:X.Ok){o:Oper}{t:TypeId}{s:St}{Kn:St→Prop}(ho:o.op=.alloc t){z r:V}{hp':Heap}(hz:tzero X.P t=some z)(h:zcC s o.dst z=some (r,hp'))
 (hK:Kn ⟨s.ck,putTm s.tm o.dst r,hp'⟩):y5 X o s Kn:=by
 refine y5.of_run r hp' (by simp[ho]) (fun M B a w hst hho htm=>?_) hK
 obtain⟨cz,e1,e2,e3,e4⟩:=jF (k:=mkK w M B s.hp s.ck) hz w
 unfold zcC at h
 split at h
 ·rename_i d cs hd hcs
  split at h
  ·rename_i hfree
   simp only[Option.some.injEq,Prod.mk.injEq] at h
   obtain⟨rfl,rfl⟩:=h
   obtain⟨h1,h2⟩:=vH e2 hcs
   obtain⟨q1,q2,q3⟩:=zfh hho (l:=(s.ck,d)) hfree rfl t h1 h2
   exact⟨_,_,_,_,by simp[execOp,ho,Instr.alloc,e1,newVar,newRow],q1,q2,q3⟩
  ·cases h
 ·cases h
def rep:Nat→List V→List V
 | 0,_=>[]
 | n+1,z=>z++rep n z
theorem qD:∀ (n:Nat) (z:List V),(rep n z).length=n * z.length
 | 0,z=>by simp[rep]
 | n+1,z=>by rw[rep,List.length_append,qD n z,Nat.add_mul];omega
theorem zl0:∀ (n:Nat) (z:List V) (j:Nat),j < n * z.length→(rep n z)[j]?=z[j % z.length]?
 | 0,z,j,h=>by simp at h
 | n+1,z,j,h=>by
   rw[rep]
   by_cases hj:j < z.length
   ·rw[List.getElem?_append_left hj,Nat.mod_eq_of_lt hj]
   ·have hj':z.length≤j:=by omega
    rw[List.getElem?_append_right hj',zl0 n z (j - z.length) (by rw[Nat.add_mul] at h;omega)]
    rw[← Nat.mod_eq_sub_mod hj']
theorem zgF {w:World}{M:Nat→Prop}{B:Loc→Option (Nat×Nat)}{hp:Heap}{ck:Nat}(hk:HeapOk (mkK w M B hp ck)){l:Loc}(hl:hp l=none)(hck:l.1=ck)
 {n sz c:Nat} {get:Nat→List V} {xs:Array Value} (ty:TypeId) (hn:n≤c) (hs:xs.size=c * sz) (hlen:∀ i,i < n→(get i).length=sz)
 (hr:∀ (i j:Nat) (v:V),i < n→(get i)[j]?=some v→R (mkK w M B hp ck) v (xs.getD (i * sz+j) undef)) :
 let k':=mkK (w.alloc (.cells xs ty)) (fun b=>M b∨b=w.heap.size) (yl B l (some (w.heap.size,c))) (updH hp l (.arr n sz get)) ck
 Step (mkK w M B hp ck) k'∧HeapOk k'∧R k' (.msl l 0 n) (.slice (some ⟨w.heap.size,0,none⟩) n c):=by
 intro k'
 have h:=zeo hk hl hck xs ty c (.arr n sz get) (fun k2 hB hh st=>by
  refine⟨hlen,trivial,?_⟩
  rw[hB]
  exact⟨hn,xs,ty,(0,0),hh,fun o=>by simp,hs,fun i j v hi hv=>(hr i j v hi hv).step st fun b hb=>(hk.own b hb).1⟩)
 refine⟨h.1,h.2,.msl _ _ _ _ rfl (.inr ⟨hck,by show (updH hp l _ l).isSome=true;rw[zd];rfl⟩) fun n' sz' get' hg=>?_⟩
 have hg':updH hp l (.arr n sz get) l=some (.arr n' sz' get'):=hg
 rw[zd] at hg'
 cases hg'
 refine⟨by omega,fun _=>?_⟩
 show _=mslVal (yl B l _ l) 0 sz n
 rw[zR]
 simp[mslVal]
def yt (P:Program)(s:St)(dst:Option Tmp)(t:TypeId)(len:Nat)(parts:List (Nat×V)):Option (Prop×V×Heap) :=
 match P.underlying t,dst with
 | some (.slice e),some d =>
   match (tzero P e).bind cellsV with
   | some z=>if len * tsz P e≤2 ^ 24∧(tagg P e).isSome=true∧z.length=tsz P e then
    match zb0 (fun i=>some (i * tsz P e,tsz P e)) (rep len z) parts,s.hp (s.ck,d) with
    | some cells,none=>some (∀ v∈cells,Pu v,.msl (s.ck,d) 0 len,updH s.hp (s.ck,d) (.arr len (tsz P e) (wa cells (tsz P e))))
    | _,_=>none
     else none
   | none=>none
 | _,_=>none
def wM (P:Program)(s:St)(dst:Option Tmp)(t:TypeId)(len:Nat)(parts:List (Nat×V)):Option (Prop×V×Heap) :=
 match P.underlying t,dst with
 | some (.slice e),some d =>
   match (tzero P e).bind cellsV with
   | some z=>if len * tsz P e≤2 ^ 24∧(tagg P e).isSome=true∧z.length=tsz P e then
    match zb0 (fun i=>some (i * tsz P e,tsz P e)) (rep len z) parts,s.hp (s.ck,d) with
    | some cells,none=>some (∀ v∈cells,Pu v∨jg v=true,.msl (s.ck,d) 0 len,updH s.hp (s.ck,d) (.arr len (tsz P e) (wa cells (tsz P e))))
    | _,_=>none
     else none
   | none=>none
 | _,_=>none
theorem zcB {P:Program}{s:St}{dst:Option Tmp}{t:TypeId}{len:Nat}{parts:List (Nat×V)}{p:Prop}{v:V}{h:Heap}(e:yt P s dst t len parts=some (p,v,h)) :
 ∃ p',wM P s dst t len parts=some (p',v,h)∧(p→p'):=by
 unfold yt at e
 split at e
 ·rename_i el d h1
  split at e
  ·rename_i z hz
   split at e
   ·rename_i hc
    split at e
    ·rename_i cells g1 g2
     simp only[Option.some.injEq,Prod.mk.injEq] at e
     obtain⟨rfl,rfl,rfl⟩:=e
     refine⟨∀ v∈cells,Pu v∨jg v=true,?_,fun q v hv=>.inl (q v hv)⟩
     unfold wM
     simp only[h1,hz,if_pos hc,g1,g2]
    ·cases e
   ·cases e
  ·cases e
 ·cases e
theorem zcA {P:Program}{s:St}{d:Tmp}{t:TypeId}{len:Nat}{parts:List (Nat×V)}{p:Prop}{v:V}{h:Heap}{n sz:Nat}{get:Nat→List V}(e:yt P s (some d) t len parts=some (p,v,h))(hp:p)
 (hl:h (s.ck,d)=some (.arr n sz get)):∀ (i j:Nat) (v:V),i < n→(get i)[j]?=some v→Pu v:=by
 unfold yt at e
 split at e
 ·rename_i el d' h1 h2
  obtain rfl:d=d':=by simpa using h2
  split at e
  ·rename_i z hz
   split at e
   ·rename_i hc
    split at e
    ·rename_i cells g1 g2
     simp only[Option.some.injEq,Prod.mk.injEq] at e
     obtain⟨rfl,rfl,rfl⟩:=e
     rw[zd] at hl
     cases hl
     exact fun i j v _ hv=>hp v (yi (jn hv))
    ·cases e
   ·cases e
  ·cases e
 ·cases e
theorem zmt {xs:Array Value}{i:Nat}(h:i < xs.size):xs[i]! = xs.getD i undef:=by
 simp[Array.getD_eq_getD_getElem?,h]
theorem zaV (zO:Nat→Option (Nat×Nat)):∀ (parts:List (Nat×V)) (cells r:List V),zb0 zO cells parts=some r→r.length=cells.length
 | [],cells,r,h=>by simp only[zb0,Option.some.injEq] at h;rw[h]
 | (i,v)::parts,cells,r,h=>by
   unfold zb0 at h
   split at h
   ·split at h
    ·rw[zaV zO parts _ r h,yW]
    ·cases h
   ·cases h
theorem zaa {X:Cx}(hX:X.Ok){o:Oper}{t:TypeId}{len:Nat}{parts:Array (Nat×Operand)}{s:St}{Kn:St→Prop}(ho:o.op=.buildSlice t len parts){pre:Prop}{r:V}{hp':Heap}
 (h:wM X.P s o.dst t len (parts.toList.map fun x=>(x.1,ev X s x.2))=some (pre,r,hp')) (hpre:pre)
 (hK:Kn ⟨s.ck,putTm s.tm o.dst r,hp'⟩):y5 X o s Kn:=by
 refine y5.of_run r hp' (by simp[ho]) (fun M B a w hst hho htm=>?_) hK
 have hev:∀ y,R (mkK w M B s.hp s.ck) (ev X s y) (a.eval y):=fun y=>zcw hX (ds:=a.defers) hst htm y
 obtain⟨hp1,hp2⟩:=zlo hev parts
 unfold wM at h
 split at h
 ·rename_i e d hu hd
  split at h
  ·rename_i z hz
   cases hz0:tzero X.P e with
   | none=>simp[hz0] at hz
   | some z0 =>
     simp only[hz0,Option.bind_some] at hz
     split at h
     ·rename_i hc
      obtain⟨hc1,hc2,hc3⟩:=hc
      obtain⟨b,hb⟩:=Option.isSome_iff_exists.1 hc2
      split at h
      ·rename_i cells hcells hfree
       simp only[Option.some.injEq,Prod.mk.injEq] at h
       obtain⟨rfl,rfl,rfl⟩:=h
       obtain⟨cz,e1,e2,e3,e4⟩:=jF (k:=mkK w M B s.hp s.ck) hz0 w
       obtain⟨h1,h2⟩:=vH e2 hz
       have hzsz:cz.cells.size=tsz X.P e:=by omega
       let zs:Array Value:=(Array.range (len * tsz X.P e)).map (fun i=>(if len * tsz X.P e=0 then #[] else cz.cells)[i % (if len * tsz X.P e=0 then #[] else cz.cells).size]!)
       have hzs:zs.size=(rep len z).length:=by simp[zs,qD,hc3]
       have hzr:∀ (j:Nat) (v:V),(rep len z)[j]?=some v→R (mkK w M B s.hp s.ck) v (zs.getD j undef):=by
        intro j v hv
        have hj:j < len * z.length:=by
         have:=(List.getElem?_eq_some_iff.1 hv).1
         rwa [qD] at this
        rw[zl0 len z j hj] at hv
        have hne:len * tsz X.P e≠0:=by rw[← hc3];omega
        have hpos:0 < tsz X.P e:=by
         rcases Nat.eq_zero_or_pos (tsz X.P e) with q | q
         ·rw[q] at hne;simp at hne
         ·exact q
        have:=h2 _ v hv
        have hzj:zs.getD j undef=cz.cells.getD (j % z.length) undef:=by
         simp only[zs,if_neg hne,Array.getD_eq_getD_getElem?,Array.getElem?_map,Array.getElem?_range]
         rw[if_pos (by rw[← hc3];exact hj)]
         simp only[Option.map_some,Option.getD_some]
         rw[zmt (by rw[hzsz];exact Nat.mod_lt _ hpos),Array.getD_eq_getD_getElem?,hzsz,hc3]
        rw[hzj];exact this
       obtain⟨cr,f1,f2,f3⟩:=ze9 _ _ _ _ zs cells hp1 hp2 hzs hzr hcells
       have hcl:cells.length=len * tsz X.P e:=by rw[zaV _ _ _ _ hcells,qD,hc3]
       obtain⟨q1,q2,q3⟩:=zgF hho (l:=(s.ck,d)) hfree rfl (n:=len) (sz:=tsz X.P e) (c:=len) (get:=wa cells (tsz X.P e)) (xs:=cr) e (Nat.le_refl _) (by rw[f2,hcl])
        (fun i hi=>by
         have:(i+1) * tsz X.P e≤len * tsz X.P e:=Nat.mul_le_mul_right _ (by omega)
         rw[Nat.add_mul] at this
         simp only[wa,List.length_take,List.length_drop,hcl];omega)
        (fun i j v hi hv=>f3 _ v (jn hv))
       refine⟨_,_,_,_,?_,q1,q2,q3⟩
       have hnot:¬ len * tsz X.P e > 2 ^ 24:=by omega
       simp only[zs] at f1
       by_cases hq:len * tsz X.P e=0
       ·simp only[if_pos hq] at f1
        simp only[execOp,ho,Instr.buildSlice,Sem.run_bind,run_underlying hu,Result.andThen_ok,zD hb,if_neg hnot,if_pos hq,Sem.run_pure,Sem.run_ite,f1]
        simp[newRow]
       ·simp only[if_neg hq] at f1
        simp only[execOp,ho,Instr.buildSlice,Sem.run_bind,run_underlying hu,Result.andThen_ok,zD hb,if_neg hnot,if_neg hq,e1,Sem.run_pure,Sem.run_ite,f1]
        simp[newRow]
      ·cases h
     ·cases h
  ·cases h
 ·cases h
theorem zge {X:Cx}(hX:X.Ok){o:Oper}{t:TypeId}{x y:Operand}{s:St}{Kn:St→Prop}(ho:o.op=.store t x y){pre:Prop}{hp':Heap}
 (h:sto X.P s.hp t (ev X s x) (ev X s y)=some (pre,hp')) (hpre:pre) (hK:Kn ⟨s.ck,putTm s.tm o.dst .top,hp'⟩):y5 X o s Kn:=by
 refine y5.of_skip hp' (by simp[ho]) (fun M B a w hst hho htm=>?_) hK
 have hev:∀ y,R (mkK w M B s.hp s.ck) (ev X s y) (a.eval y):=fun y=>zcw hX (ds:=a.defers) hst htm y
 obtain⟨xa,w',h1,h2,h3,h4⟩:=sto_ok (P:=X.P) hho (hev x) (hev y) h hpre
 exact⟨w',M,B,by simp[execOp,ho,Instr.storeAt,Instr.sureAddr,h1,h2],h3,h4⟩
def tby (P:Program)(t:TypeId):Nat:=((P.info? t).map (·.bytes)).getD 0
def yj (P:Program)(s:St)(dst:Option Tmp)(t:TypeId)(len cap:V):Option (Prop×V×Heap) :=
 match P.underlying t,dst,len,cap with
 | some (.slice e),some d,.int .i64 n,.int .i64 c =>
   match (tzero P e).bind cellsV,s.hp (s.ck,d) with
   | some z,none=>if (tagg P e).isSome=true∧z.length=tsz P e∧z.length≠0 then
    some (0≤n∧n≤c∧c≤140737488355328∧c * tby P e≤140737488355328∧∀ v∈z,Pu v,.msl (s.ck,d) 0 n.toNat,updH s.hp (s.ck,d) (.arr n.toNat (tsz P e) (fun _=>z)))
     else none
   | _,_=>none
 | _,_,_,_=>none
theorem zfl {X:Cx}(hX:X.Ok){o:Oper}{t:TypeId}{len cap:Operand}{s:St}{Kn:St→Prop}(ho:o.op=.makeSlice t len cap){pre:Prop}{r:V}{hp':Heap}
 (h:yj X.P s o.dst t (ev X s len) (ev X s cap)=some (pre,r,hp')) (hpre:pre) (hK:Kn ⟨s.ck,putTm s.tm o.dst r,hp'⟩):y5 X o s Kn:=by
 refine y5.of_run r hp' (by simp[ho]) (fun M B a w hst hho htm=>?_) hK
 have hev:∀ y,R (mkK w M B s.hp s.ck) (ev X s y) (a.eval y):=fun y=>zcw hX (ds:=a.defers) hst htm y
 have hl:=hev len
 have hc:=hev cap
 unfold yj at h
 split at h
 ·rename_i e d n c hu hd hn hcc
  rw[hn] at hl
  rw[hcc] at hc
  split at h
  ·rename_i z hz hfree
   cases hz0:tzero X.P e with
   | none=>simp[hz0] at hz
   | some z0 =>
     simp only[hz0,Option.bind_some] at hz
     split at h
     ·rename_i hcond
      obtain⟨hg,hzl,hz1⟩:=hcond
      obtain⟨b,hb⟩:=Option.isSome_iff_exists.1 hg
      simp only[Option.some.injEq,Prod.mk.injEq] at h
      obtain⟨rfl,rfl,rfl⟩:=h
      obtain⟨p1,p2,p3,p4,p5⟩:=hpre
      obtain⟨cz,e1,e2,e3,e4⟩:=jF (k:=mkK w M B s.hp s.ck) hz0 w
      obtain⟨h1,h2⟩:=vH e2 hz
      obtain⟨i,hi⟩:∃ i,X.P.info? e=some i:=by
       unfold tagg at hb
       cases q:X.P.underlying e with
       | none=>simp[q] at hb
       | some dd=>exact yy q
      have hby:tby X.P e=i.bytes:=by simp[tby,hi]
      rw[hby] at p4
      have wn:IntKind.i64.wrap n=n:=qe ((zmo n).2 ⟨by omega,by omega⟩)
      have wc:IntKind.i64.wrap c=c:=qe ((zmo c).2 ⟨by omega,by omega⟩)
      have hpos:0 < tsz X.P e:=by omega
      let zs:Array Value:=(Array.range (c.toNat * tsz X.P e)).map (fun i=>(if c.toNat * tsz X.P e=0 then #[] else cz.cells)[i % (if c.toNat * tsz X.P e=0 then #[] else cz.cells).size]!)
      have hzs:zs.size=c.toNat * tsz X.P e:=by simp[zs]
      have hzsz:cz.cells.size=tsz X.P e:=by omega
      obtain⟨q1,q2,q3⟩:=zgF hho (l:=(s.ck,d)) hfree rfl (n:=n.toNat) (sz:=tsz X.P e) (c:=c.toNat) (get:=fun _=>z) (xs:=zs) e (by omega) hzs (fun _ _=>hzl)
       (fun i j v hi hv=>by
        have hj:j < tsz X.P e:=by have:=(List.getElem?_eq_some_iff.1 hv).1;omega
        have hlt:i * tsz X.P e+j < c.toNat * tsz X.P e:=by
         have:(i+1) * tsz X.P e≤c.toNat * tsz X.P e:=Nat.mul_le_mul_right _ (by omega)
         rw[Nat.add_mul] at this;omega
        have hne:c.toNat * tsz X.P e≠0:=by omega
        have hzj:zs.getD (i * tsz X.P e+j) undef=cz.cells.getD j undef:=by
         simp only[zs,if_neg hne,Array.getD_eq_getD_getElem?,Array.getElem?_map,Array.getElem?_range]
         rw[if_pos hlt]
         simp only[Option.map_some,Option.getD_some]
         have hmod:(i * tsz X.P e+j) % cz.cells.size=j:=by
          rw[hzsz,Nat.mul_comm,Nat.mul_add_mod,Nat.mod_eq_of_lt hj]
         rw[hmod,zmt (by omega),Array.getD_eq_getD_getElem?]
        rw[hzj];exact h2 j v hv)
      refine⟨_,_,_,_,?_,q1,q2,q3⟩
      have hbig:decide ((i.bytes:Int) * c > 2 ^ 48)=false:=by
       rw[decide_eq_false_iff_not,Int.mul_comm]
       have:(2:Int) ^ 48=281474976710656:=by decide
       omega
      have c1:decide (c < 0)=false:=by simp;omega
      have c2:decide (n < 0)=false:=by simp;omega
      have c3:decide (n > c)=false:=by simp;omega
      by_cases hq:c.toNat * tsz X.P e=0
      ·simp only[execOp,ho,Instr.makeSlice,Sem.run_bind,run_underlying hu,Result.andThen_ok,hl.int_inv,hc.int_inv,asInt,asIntOf,Sem.run_pure,typeInfo,run_program,hi,wn,wc,c1,c2,c3,hbig,Bool.false_or,Bool.or_false,Bool.false_eq_true,if_false,run_askRoom,zD hb,if_pos hq,Sem.run_ite]
       simp[newRow,zs,hq]
      ·simp only[execOp,ho,Instr.makeSlice,Sem.run_bind,run_underlying hu,Result.andThen_ok,hl.int_inv,hc.int_inv,asInt,asIntOf,Sem.run_pure,typeInfo,run_program,hi,wn,wc,c1,c2,c3,hbig,Bool.false_or,Bool.or_false,Bool.false_eq_true,if_false,run_askRoom,zD hb,if_neg hq,e1,Sem.run_ite]
       simp[newRow,zs,hq]
     ·cases h
  ·cases h
 ·cases h
def zgf (hp:Heap)(x:V):Option (Prop×Nat×(Nat→List V)×Option Nat) :=
 match x with
 | .nils=>some (True,0,fun _=>[],none)
 | .sl n sz get=>some (True,n,get,some sz)
 | .str s=>some (True,s.length,fun i=>[.int .u8 (s.getD i 0).toNat],some 1)
 | .msl l off len=>match hp l with
   | some (.arr n sz get)=>some (off+len=n,len,fun i=>get (off+i),some sz)
   | _=>none
 | .bsl l off len=>match hp l with
   | some (.buf c sz get)=>some (off+len≤c,len,fun i=>get (off+i),some sz)
   | _=>none
 | _=>none
theorem zaG {P:Program}{k:K}(hk:HeapOk k){x:V}{cx:Value}(hx:R k x cx){pre:Prop}{n sz:Nat}{get:Nat→List V}{osz:Option Nat}(h:zgf k.hp x=some (pre,n,get,osz))(hp:pre)
 (hsz:n=0∨osz=some sz) {m:Nat} (hm:m≤n) :
 (Builtin.lenOf cx).run P k.w=.ok n k.w∧∃ ys:Array Value,(∀ w':World,w'.heap=k.w.heap→(Builtin.firstCells sz m cx).run P w'=.ok ys w')∧ys.size=m * sz ∧
  (∀ i,i < m→(get i).length=sz)∧∀ (i j:Nat) (v:V),i < m→(get i)[j]?=some v→j < sz∧R k v (ys.getD (i * sz+j) undef):=by
 have hld:∀ (b off cap:Nat) (xx:Nat→Nat→Value),m≤n→(∀ i j,i < n→j < sz→k.w.cell? ⟨b,off+i * sz+j,none⟩=some (xx i j))→(∀ i,i < n→(get i).length=sz) →
  (∀ (i j:Nat) (v:V),i < n→(get i)[j]?=some v→R k v (xx i j)) →
  ∃ ys:Array Value,(∀ w':World,w'.heap=k.w.heap→(Builtin.firstCells sz m (.slice (some ⟨b,off,none⟩) n cap)).run P w'=.ok ys w')∧ys.size=m * sz ∧
  (∀ i,i < m→(get i).length=sz)∧∀ (i j:Nat) (v:V),i < m→(get i)[j]?=some v→j < sz∧R k v (ys.getD (i * sz+j) undef):=by
  intro b off cap xx hmn hc hl hr
  refine⟨((List.range (m * sz)).map fun q=>xx (q / sz) (q % sz)).toArray,fun w' hw=>?_,by simp,fun i hi=>hl i (by omega),fun i j v hi hv=>?_⟩
  ·have:=run_loadCells (P:=P) w' ⟨b,off,none⟩ (m * sz) (fun q=>xx (q / sz) (q % sz)) (fun q hq=>by
    have hpos:0 < sz:=by
     rcases Nat.eq_zero_or_pos sz with z | z
     ·rw[z] at hq;simp at hq
     ·exact z
    have hdiv:q / sz < m:=by rw[Nat.div_lt_iff_lt_mul hpos];exact hq
    have:=hc (q / sz) (q % sz) (by omega) (Nat.mod_lt _ hpos)
    rw[w5]
    have e:off+q / sz * sz+q % sz=off+q:=by
     have:=Nat.div_add_mod q sz
     rw[Nat.mul_comm] at this
     omega
    rw[e] at this
    rw[World.cell_eq_of_heap (w:=k.w) (w':=w') (by rw[hw])]
    exact this)
   simpa [Builtin.firstCells] using this
  ·have hj:j < sz:=by have:=(List.getElem?_eq_some_iff.1 hv).1;rw[hl i (by omega)] at this;exact this
   refine⟨hj,?_⟩
   have hlt:i * sz+j < m * sz:=by
    have:(i+1) * sz≤m * sz:=Nat.mul_le_mul_right _ (by omega)
    rw[Nat.add_mul] at this;omega
   have e1:(i * sz+j) / sz=i:=by
    rw[Nat.mul_comm,Nat.mul_add_div (by omega),Nat.div_eq_of_lt hj];omega
   have e2:(i * sz+j) % sz=j:=by rw[Nat.mul_comm,Nat.mul_add_mod,Nat.mod_eq_of_lt hj]
   simp only[Array.getD_eq_getD_getElem?,List.getElem?_toArray,List.getElem?_map,List.getElem?_range hlt,Option.map_some,Option.getD_some,e1,e2]
   exact hr i j v (by omega) hv
 unfold zgf at h
 split at h
 ·simp only[Option.some.injEq,Prod.mk.injEq] at h
  obtain⟨rfl,rfl,rfl,rfl⟩:=h
  rw[hx.nils_inv]
  obtain rfl:m=0:=by omega
  exact⟨by simp[Builtin.lenOf],#[],fun w' _=>by simp[Builtin.firstCells],by simp,fun i hi=>by omega,fun i j v hi=>by omega⟩
 ·rename_i n' sz' get'
  simp only[Option.some.injEq,Prod.mk.injEq] at h
  obtain⟨rfl,rfl,rfl,rfl⟩:=h
  cases hx with
  | sl0 _ _ oa cap =>
    obtain rfl:m=0:=by omega
    refine⟨by simp[Builtin.lenOf],#[],fun w' _=>?_,by simp,fun i hi=>by omega,fun i j v hi=>by omega⟩
    cases oa <;> simp[Builtin.firstCells,loadCells,loadCellsFrom]
  | sl _ _ _ b off cap xx hM hb hcap hpu hl hc hr =>
    refine⟨by simp[Builtin.lenOf],?_⟩
    by_cases hn0:n'=0
    ·obtain rfl:m=0:=by omega
     exact⟨#[],fun w' _=>by simp[Builtin.firstCells,loadCells,loadCellsFrom],by simp,fun i hi=>by omega,fun i j v hi=>by omega⟩
    ·have:sz'=sz:=by rcases hsz with q | q <;> simp_all
     subst this
     exact hld b off cap xx hm hc hl hr
 ·rename_i s
  simp only[Option.some.injEq,Prod.mk.injEq] at h
  obtain⟨rfl,rfl,rfl,rfl⟩:=h
  rw[hx.str_inv]
  have hz:(⟨s.toArray⟩:ByteArray).size=s.length:=by simp[ByteArray.size]
  refine⟨by simp[Builtin.lenOf,hz],((s.take m).map fun b=>Value.int .u8 b.toNat).toArray,fun w' _=>?_,?_,fun i hi=>?_,fun i j v hi hv=>?_⟩
  ·have hex:((⟨s.toArray⟩:ByteArray).extract 0 m).data=(s.take m).toArray:=by
    rw[ByteArray.data_extract];simp
   simp[Builtin.firstCells,hex]
  ·rcases hsz with q | q
   ·simp_all
   ·cases q
    simp;omega
  ·rcases hsz with q | q
   ·omega
   ·cases q;rfl
  ·have:sz=1:=by rcases hsz with q | q <;> simp_all
   subst this
   cases j with
   | zero =>
     simp only[List.getElem?_cons_zero,Option.some.injEq] at hv
     subst hv
     refine⟨by omega,?_⟩
     have h1:s[i]?=some s[i]:=List.getElem?_eq_getElem (by omega)
     have:((s.take m).map fun b=>Value.int .u8 b.toNat).toArray.getD (i * 1+0) undef=.int .u8 (s.getD i 0).toNat:=by
      simp[Array.getD_eq_getD_getElem?,List.getElem?_take_of_lt hi,h1,List.getD_eq_getElem?_getD]
     rw[this];exact .int _ _
   | succ j=>simp at hv
 ·rename_i l off len
  cases ho:k.hp l with
  | none=>simp[ho] at h
  | some ob =>
    cases ob with
    | cells cs=>simp[ho] at h
    | dead=>simp[ho] at h
    | raw r=>simp[ho] at h
    | buf _ _ _=>simp[ho] at h
    | arr n' sz' get' =>
      simp only[ho,Option.some.injEq,Prod.mk.injEq] at h
      obtain⟨rfl,rfl,rfl,rfl⟩:=h
      obtain⟨g1,g2,g3⟩:=hk.obj l _ ho
      cases hx with
      | msl _ _ _ _ h1c hn hh =>
        obtain⟨q1,q2⟩:=hh _ _ _ ho
        have hcx:=q2 hp
        cases hB:k.B l with
        | none =>
          simp only[hB] at g3
          simp only[hB,mslVal] at hcx
          subst hcx
          obtain rfl:len=0:=by omega
          obtain rfl:m=0:=by omega
          exact⟨by simp[Builtin.lenOf],#[],fun w' _=>by simp[Builtin.firstCells],by simp,fun i hi=>by omega,fun i j v hi=>by omega⟩
        | some bc =>
          obtain⟨b,c⟩:=bc
          simp only[hB] at g3
          obtain⟨hnc,xs,ty,fz,hh2,hz,hs,hr⟩:=g3
          simp only[hB,mslVal] at hcx
          subst hcx
          refine⟨by simp[Builtin.lenOf],?_⟩
          by_cases hn0:len=0
          ·obtain rfl:m=0:=by omega
           exact⟨#[],fun w' _=>by simp[Builtin.firstCells,loadCells,loadCellsFrom],by simp,fun i hi=>by omega,fun i j v hi=>by omega⟩
          ·have:sz'=sz:=by rcases hsz with q | q <;> simp_all
           subst this
           refine hld b (off * sz') (c - off) (fun i j=>xs.getD ((off+i) * sz'+j) undef) hm (fun i j hi hj=>?_) (fun i hi=>g1 _ (by omega)) (fun i j v hi hv=>hr _ j v (by omega) hv)
           rw[show off * sz'+i * sz'+j=(off+i) * sz'+j by rw[Nat.add_mul]]
           refine z6 hh2 ?_
           rw[hs]
           have:(off+i+1) * sz'≤c * sz':=Nat.mul_le_mul_right _ (by omega)
           rw[Nat.add_mul (off+i)] at this
           omega
 ·rename_i l off len
  cases ho:k.hp l with
  | none=>simp[ho] at h
  | some ob =>
    cases ob with
    | cells cs=>simp[ho] at h
    | dead=>simp[ho] at h
    | raw r=>simp[ho] at h
    | arr _ _ _=>simp[ho] at h
    | buf c sz' get' =>
      simp only[ho,Option.some.injEq,Prod.mk.injEq] at h
      obtain⟨rfl,rfl,rfl,rfl⟩:=h
      obtain⟨g1,b,xs,ty,fz,hB,hh2,hz,hs,hr⟩:=hk.obj l _ ho
      cases hx with
      | bsl _ _ _ _ h1c hn hh =>
        obtain⟨b0,q1,q2,hcx⟩:=hh _ _ _ ho
        obtain rfl:b0=b:=by rw[q1] at hB;cases hB;rfl
        subst hcx
        refine⟨by simp[Builtin.lenOf],?_⟩
        by_cases hn0:len=0
        ·obtain rfl:m=0:=by omega
         exact⟨#[],fun w' _=>by simp[Builtin.firstCells,loadCells,loadCellsFrom],by simp,fun i hi=>by omega,fun i j v hi=>by omega⟩
        ·have:sz'=sz:=by rcases hsz with q | q <;> simp_all
         subst this
         refine hld b0 (off * sz') (c - off) (fun i j=>xs.getD ((off+i) * sz'+j) undef) hm (fun i j hi hj=>?_) (fun i hi=>g1 _ (by omega)) (fun i j v hi hv=>hr _ j v (by omega) hv)
         rw[show off * sz'+i * sz'+j=(off+i) * sz'+j by rw[Nat.add_mul]]
         refine z6 hh2 ?_
         rw[hs]
         have:(off+i+1) * sz'≤c * sz':=Nat.mul_le_mul_right _ (by omega)
         rw[Nat.add_mul (off+i)] at this
         omega
 ·cases h
theorem zay {w:World}{M:Nat→Prop}{B:Loc→Option (Nat×Nat)}{hp:Heap}{ck:Nat}(hk:HeapOk (mkK w M B hp ck)) :
 Step (mkK w M B hp ck) (mkK w.drew M B hp ck)∧HeapOk (mkK w.drew M B hp ck):=by
 have st:Step (mkK w M B hp ck) (mkK w.drew M B hp ck) :=
  ⟨rfl,rfl,rfl,Nat.le_refl _,fun _ _ _=>rfl,fun _ h=>.inl h,fun _ _ h=>h,fun _ _ _ h=>h,fun _ h=>h,fun l hl o' ho'=>(Step.refl (mkK w M B hp ck)).names l hl o' ho'⟩
 exact⟨st,hk.lt,hk.own,hk.nm,hk.inj,fun l o h=>ObjOk.step st hk h h rfl fun _ _ _=>rfl⟩
theorem zgE {w:World}{M:Nat→Prop}{B:Loc→Option (Nat×Nat)}{hp:Heap}{ck:Nat}(hk:HeapOk (mkK w M B hp ck)){l:Loc}(hl:hp l=none)(hck:l.1=ck)(sz:Nat)(get:Nat→List V) :
 let k':=mkK w M (yl B l none) (updH hp l (.arr 0 sz get)) ck
 Step (mkK w M B hp ck) k'∧HeapOk k'∧R k' (.msl l 0 0) (.slice none 0 0):=by
 intro k'
 have hnm:¬ (mkK w M B hp ck).nm l:=by
  intro h;rcases h with h | ⟨_,h⟩
  ·omega
  ·simp[hl] at h
 have hold:∀ l':Loc,l'≠l→k'.hp l'=hp l'∧k'.B l'=B l':=fun l' h=>⟨zc h,vx h⟩
 have hown:∀ b,k'.owned b→(mkK w M B hp ck).owned b:=by
  rintro b ⟨l',o',c',h1,h2⟩
  by_cases e:l'=l
  ·subst e
   have:yl B l' none l'=some (b,c'):=h2
   rw[zR] at this
   cases this
  ·rw[(hold l' e).1] at h1;rw[(hold l' e).2] at h2
   exact⟨l',o',c',h1,h2⟩
 have st:Step (mkK w M B hp ck) k':=by
  refine⟨rfl,rfl,rfl,Nat.le_refl _,fun _ _ _=>rfl,fun b h=>.inl (hown b h),fun _ _ h=>h,fun _ _ _ h=>h,fun l' h=>ye h,fun l' hl' o' ho'=>?_⟩
  have e:l'≠l:=fun e=>hnm (e ▸ hl')
  rw[(hold l' e).1] at ho'
  have q:=(Step.refl (mkK w M B hp ck)).names l' hl' o' ho'
  cases o' with
  | dead=>trivial
  | raw r=>trivial
  | cells cs=>exact⟨q.1,(hold l' e).2⟩
  | buf _ _ _=>exact⟨q.1,(hold l' e).2⟩
  | arr n sz get=>obtain⟨n0,g0,q1,q2,q3⟩:=q;exact⟨n0,g0,q1,q2,fun _=>(hold l' e).2⟩
 refine⟨st,⟨hk.lt,fun b hb=>hk.own b (hown b hb),fun l' o' h1=>?_,fun l1 l2 b c c' o1 o2 h1 h2 h3 h4=>?_,fun l' o' h1=>?_⟩,.msl _ _ _ _ rfl (.inr ⟨hck,by show (updH hp l _ l).isSome=true;rw[zd];rfl⟩) fun n' sz' get' hg=>?_⟩
 ·by_cases e:l'=l
  ·subst e;exact .inr ⟨hck,by show (updH hp l' _ l').isSome=true;rw[zd];rfl⟩
  ·rw[(hold l' e).1] at h1;exact ye (hk.nm l' o' h1)
 ·have e1:l1≠l:=by
   intro e;subst e
   have:yl B l1 none l1=some (b,c):=h3
   rw[zR] at this;cases this
  have e2:l2≠l:=by
   intro e;subst e
   have:yl B l2 none l2=some (b,c'):=h4
   rw[zR] at this;cases this
  rw[(hold l1 e1).1] at h1;rw[(hold l1 e1).2] at h3
  rw[(hold l2 e2).1] at h2;rw[(hold l2 e2).2] at h4
  exact hk.inj l1 l2 b c c' o1 o2 h1 h2 h3 h4
 ·by_cases e:l'=l
  ·subst e
   have q:updH hp l' _ l'=some o':=h1
   rw[zd] at q
   cases q
   refine⟨fun i hi=>by omega,trivial,?_⟩
   have:k'.B l'=none:=zR _ _ _
   rw[this]
  ·have h3:=hold l' e
   rw[h3.1] at h1
   exact ObjOk.step st hk h1 (h3.1.trans h1) h3.2 fun _ _ _=>rfl
 ·have hg':updH hp l _ l=some (.arr n' sz' get'):=hg
  rw[zd] at hg'
  cases hg'
  refine⟨by omega,fun _=>?_⟩
  show _=mslVal (yl B l none l) 0 sz 0
  rw[zR];rfl
theorem zms {w:World}{M:Nat→Prop}{B:Loc→Option (Nat×Nat)}{hp:Heap}{ck:Nat}(hk:HeapOk (mkK w M B hp ck)){l:Loc}{n sz:Nat}{get:Nat→List V}(hl:hp l=some (.arr n sz get))
 {n' c:Nat} {get':Nat→List V} {xs:Array Value} (ty:TypeId) (hlt:n < n') (hn:n'≤c) (hs:xs.size=c * sz) (hlen:∀ i,i < n'→(get' i).length=sz)
 (hr:∀ (i j:Nat) (v:V),i < n'→(get' i)[j]?=some v→R (mkK w M B hp ck) v (xs.getD (i * sz+j) undef)) :
 let k':=mkK (w.alloc (.cells xs ty)) (fun b=>M b∨b=w.heap.size) (yl B l (some (w.heap.size,c))) (updH hp l (.arr n' sz get')) ck
 Step (mkK w M B hp ck) k'∧HeapOk k'∧R k' (.msl l 0 n') (.slice (some ⟨w.heap.size,0,none⟩) n' c):=by
 intro k'
 have hsz:(w.alloc (.cells xs ty)).heap.size=w.heap.size+1:=World.size_alloc w _
 have hold:∀ l':Loc,l'≠l→k'.hp l'=hp l'∧k'.B l'=B l':=fun l' h=>⟨zc h,vx h⟩
 have hBl:k'.B l=some (w.heap.size,c):=zR _ _ _
 have hHl:k'.hp l=some (.arr n' sz get'):=zd _ _ _
 have hown:∀ b,k'.owned b→(mkK w M B hp ck).owned b∨b=w.heap.size:=by
  rintro b ⟨l',o',c',h1,h2⟩
  by_cases e:l'=l
  ·subst e
   rw[hBl] at h2
   simp only[Option.some.injEq,Prod.mk.injEq] at h2
   exact .inr h2.1.symm
  ·rw[(hold l' e).1] at h1;rw[(hold l' e).2] at h2
   exact .inl ⟨l',o',c',h1,h2⟩
 have st:Step (mkK w M B hp ck) k':=by
  refine⟨rfl,rfl,rfl,by show w.heap.size≤(w.alloc _).heap.size;omega,fun b hb _=>wR hb,fun b h=>(hown b h).imp id (fun e=>by show w.heap.size≤b;omega),fun b hb hM=>?_,fun b _ _ h=>.inl h,fun l' h=>ye h,fun l' hl' o' ho'=>?_⟩
  ·rcases hM with h | h
   ·exact h
   ·have:b < w.heap.size:=hb
    omega
  ·by_cases e:l'=l
   ·subst e
    rw[hHl] at ho'
    cases ho'
    exact⟨n,get,hl,by omega,fun e=>by omega⟩
   ·rw[(hold l' e).1] at ho'
    have q:=(Step.refl (mkK w M B hp ck)).names l' hl' o' ho'
    cases o' with
    | dead=>trivial
    | raw r=>trivial
    | cells cs=>exact⟨q.1,(hold l' e).2⟩
    | buf _ _ _=>exact⟨q.1,(hold l' e).2⟩
    | arr n sz get=>obtain⟨n0,g0,q1,q2,q3⟩:=q;exact⟨n0,g0,q1,q2,fun _=>(hold l' e).2⟩
 refine⟨st,⟨fun b hb=>?_,fun b hb=>?_,fun l' o' h1=>?_,fun l1 l2 b c1 c2 o1 o2 h1 h2 h3 h4=>?_,fun l' o' h1=>?_⟩,.msl _ _ _ _ rfl (ye (hk.nm l _ hl)) fun m sz' get2 hg=>?_⟩
 ·rcases hb with h | h
  ·have h2:b < w.heap.size:=hk.lt b h
   show b < (w.alloc _).heap.size
   omega
  ·show b < (w.alloc _).heap.size
   omega
 ·rcases hown b hb with h | h
  ·have:=hk.own b h
   have h2:b < w.heap.size:=this.2
   exact⟨.inl this.1,by show b < (w.alloc _).heap.size;omega⟩
  ·exact⟨.inr h,by show b < (w.alloc _).heap.size;omega⟩
 ·by_cases e:l'=l
  ·subst e;exact ye (hk.nm l' _ hl)
  ·rw[(hold l' e).1] at h1;exact ye (hk.nm l' o' h1)
 ·by_cases e1:l1=l
  ·by_cases e2:l2=l
   ·rw[e1,e2]
   ·subst e1
    rw[hBl] at h3
    simp only[Option.some.injEq,Prod.mk.injEq] at h3
    rw[(hold l2 e2).1] at h2;rw[(hold l2 e2).2] at h4
    have h5:b < w.heap.size:=(hk.own b ⟨l2,o2,c2,h2,h4⟩).2
    omega
  ·by_cases e2:l2=l
   ·subst e2
    rw[hBl] at h4
    simp only[Option.some.injEq,Prod.mk.injEq] at h4
    rw[(hold l1 e1).1] at h1;rw[(hold l1 e1).2] at h3
    have h5:b < w.heap.size:=(hk.own b ⟨l1,o1,c1,h1,h3⟩).2
    omega
   ·rw[(hold l1 e1).1] at h1;rw[(hold l1 e1).2] at h3
    rw[(hold l2 e2).1] at h2;rw[(hold l2 e2).2] at h4
    exact hk.inj l1 l2 b c1 c2 o1 o2 h1 h2 h3 h4
 ·by_cases e:l'=l
  ·subst e
   rw[hHl] at h1
   cases h1
   refine⟨hlen,trivial,?_⟩
   rw[hBl]
   exact⟨hn,xs,ty,(0,0),jT w _,fun o=>by simp,hs,fun i j v hi hv=>(hr i j v hi hv).step st fun b hb=>(hk.own b hb).1⟩
  ·have h3:=hold l' e
   rw[h3.1] at h1
   exact ObjOk.step st hk h1 (h3.1.trans h1) h3.2 fun b c hb=>wR (hk.own b ⟨l',o',c,h1,hb⟩).2
 ·rw[hHl] at hg
  cases hg
  refine⟨by omega,fun _=>?_⟩
  rw[hBl]
  simp[mslVal]
theorem wY (z:Array Value)(n:Nat):(Builtin.zeroCells z n).size=n * z.size:=by simp[Builtin.zeroCells]
theorem vF {P:Program}{w:World}{t t2 ty e:TypeId}{d2:TypeDesc}{sz:Nat}(ht:P.underlying t=some (.slice e))(ht2:P.underlying t2=some d2)(hd2:d2=.string∨∃ e2,d2=.slice e2)(hsz:∀ w:World,(sizeOf e).run P w=.ok sz w)
 {base:Option Addr} {n c m:Nat} {cx:Value} (hlen:(Builtin.lenOf cx).run P w=.ok m w) {ys:Array Value} (hys:(Builtin.firstCells sz m cx).run P w=.ok ys w) (hroom:n+m≤c) {w':World}
 (hst:match base with | none=>w'=w | some a=>(storeCells (a.add (n * sz)) ys.toList).run P w=.ok () w') :
 (Builtin.append_ #[t,t2] ty #[.slice base n c,cx]).run P w=.ok (.slice base (n+m) c) w':=by
 cases base with
 | none =>
   simp only at hst
   subst hst
   rcases hd2 with rfl | ⟨e2,rfl⟩ <;> simp[Builtin.append_,run_underlying ht,run_underlying ht2,hsz,hlen,hroom,hys]
 | some a =>
   simp only at hst
   rcases hd2 with rfl | ⟨e2,rfl⟩ <;> simp[Builtin.append_,run_underlying ht,run_underlying ht2,hsz,hlen,hroom,hys,hst]
theorem vj {P:Program}{w:World}{t t2 ty e:TypeId}{d2:TypeDesc}{sz:Nat}{i:TypeInfo}(ht:P.underlying t=some (.slice e))(ht2:P.underlying t2=some d2)(hd2:d2=.string∨∃ e2,d2=.slice e2)(hsz:∀ w:World,(sizeOf e).run P w=.ok sz w)
 (hi:P.info? e=some i) {cz:Value} (hz:∀ w:World,(zeroValue e).run P w=.ok cz w) (hb0:i.bytes≠0) {base:Option Addr} {n c m:Nat} {cx:Value} (hlen:(Builtin.lenOf cx).run P w=.ok m w) {ys olds:Array Value}
 (hys:∀ w':World,w'.heap=w.heap→(Builtin.firstCells sz m cx).run P w'=.ok ys w') (hold:∀ w':World,w'.heap=w.heap→(Builtin.firstCells sz n (.slice base n c)).run P w'=.ok olds w')
 (hroom:c < n+m) (hcap:Builtin.nextslicecap (n+m) c * i.bytes≤281474976710656) :
 ∃ c',n+m≤c'∧(Builtin.append_ #[t,t2] ty #[.slice base n c,cx]).run P w =
  .ok (.slice (some ⟨w.heap.size,0,none⟩) (n+m) c') (w.drew.alloc (.cells (olds++ys++Builtin.zeroCells cz.cells (c' - (n+m))) e)):=by
 refine⟨Question.cut (.appendCap (n+m) c e) (w.tape w.drawn (.appendCap (n+m) c e)),by simp[Question.cut],?_⟩
 have hnot:¬ n+m≤c:=by omega
 have hbig:¬ 281474976710656 < Builtin.nextslicecap (n+m) c * i.bytes:=by omega
 have h1:=hys w.drew rfl
 have h2:=hold w.drew rfl
 have hf:(Question.appendCap (n+m) c e).forced=false:=rfl
 rcases hd2 with rfl | ⟨e2,rfl⟩ <;>
  simp[Builtin.append_,run_underlying ht,run_underlying ht2,hsz,hlen,hnot,typeInfo,hi,hb0,hbig,hf,h1,h2,hz,newRow]
def zc2:TypeDesc→Bool
 | .string | .slice _=>true
 | _=>false
theorem zhH {w:World}{M:Nat→Prop}{B:Loc→Option (Nat×Nat)}{hp:Heap}{ck:Nat}(hk:HeapOk (mkK w M B hp ck)){l:Loc}{o o':AObj}(hl:hp l=some o)
 (hkind:compat (some o) (B l) (B l) o') (ho:∀ k':K,k'.w=w→k'.B=B→Step (mkK w M B hp ck) k'→ObjOk k' l o') :
 let k':=mkK w M B (updH hp l o') ck
 Step (mkK w M B hp ck) k'∧HeapOk k':=by
 intro k'
 have hold:∀ l':Loc,l'≠l→k'.hp l'=hp l':=fun l' h=>zc h
 have hown:∀ x,k'.owned x→(mkK w M B hp ck).owned x:=by
  rintro x ⟨l',o1,c1,h1,h2⟩
  by_cases e:l'=l
  ·subst e;exact⟨l',o,c1,hl,h2⟩
  ·rw[hold l' e] at h1;exact⟨l',o1,c1,h1,h2⟩
 have st:Step (mkK w M B hp ck) k':=by
  refine⟨rfl,rfl,rfl,Nat.le_refl _,fun x hx hno=>rfl,fun x hx=>.inl (hown x hx),fun _ _ h=>h,fun _ _ _ h=>h,fun l' h=>ye h,?_⟩
  intro l' hl' o1 ho1
  by_cases e:l'=l
  ·subst e
   have q:updH hp l' o' l'=some o1:=ho1
   rw[zd] at q
   cases q
   show compat (hp l') (B l') (B l') o'
   rw[hl]
   exact hkind
  ·rw[hold l' e] at ho1
   exact(Step.refl (mkK w M B hp ck)).names l' hl' o1 ho1
 refine⟨st,fun x hx=>hk.lt x hx,fun x hx=>hk.own x (hown x hx),fun l' o1 h1=>?_,?_,?_⟩
 ·by_cases e:l'=l
  ·subst e;exact ye (hk.nm l' o hl)
  ·rw[hold l' e] at h1;exact ye (hk.nm l' o1 h1)
 ·intro l1 l2 x c1 c2 o1 o2 h1 h2 h3 h4
  have g:∀ l' o1,k'.hp l'=some o1→∃ o2,hp l'=some o2:=by
   intro l' o1 h
   by_cases e:l'=l
   ·exact⟨o,e ▸ hl⟩
   ·rw[hold l' e] at h;exact⟨o1,h⟩
  obtain⟨p1,q1⟩:=g l1 o1 h1
  obtain⟨p2,q2⟩:=g l2 o2 h2
  exact hk.inj l1 l2 x c1 c2 p1 p2 q1 q2 h3 h4
 ·intro l' o1 h1
  by_cases e:l'=l
  ·subst e
   have q:updH hp l' o' l'=some o1:=h1
   rw[zd] at q
   cases q
   exact ho k' rfl rfl st
  ·have h3:=hold l' e
   rw[h3] at h1
   exact ObjOk.step st hk h1 (h3.trans h1) rfl fun x c1 hx=>rfl
def appendR (P:Program)(s:St)(dst:Option Tmp)(t t2:TypeId)(x y:V):Option (Prop×V×Heap) :=
 match P.underlying t,P.underlying t2,zgf s.hp y with
 | some (.slice e),some d2,some (p1,m,src,osz) =>
   if zc2 d2=true∧(tagg P e).isSome=true∧((tzero P e).bind cellsV).map List.length=some (tsz P e)∧tby P e≠0 then
    match x,dst with
    | .nils,some d=>match s.hp (s.ck,d) with
      | none=>some (p1∧(m=0∨osz=some (tsz P e))∧m * tby P e≤140737488355328∧m≤140737488355328∧∀ i,i < m→∀ v∈src i,Pu v∧jM v=true,
       .msl (s.ck,d) 0 m,updH s.hp (s.ck,d) (.arr m (tsz P e) src))
      | some _=>none
    | .msl l off n,_=>match s.hp l with
      | some (.arr n' sz get)=>some (p1∧off=0∧n=n'∧sz=tsz P e∧(m=0∨osz=some (tsz P e))∧(n+m) * tby P e≤140737488355328∧n+m≤140737488355328∧∀ i,i < m→∀ v∈src i,Pu v∧jM v=true,
       .msl l 0 (n+m),updH s.hp l (.arr (n+m) (tsz P e) (fun i=>if i < n then get i else src (i - n))))
      | _=>none
    | _,_=>none
   else none
 | _,_,_=>none
def appendN (P:Program)(s:St)(dst:Option Tmp)(t t2:TypeId)(x y:V):Option (Prop×V×Heap) :=
 match P.underlying t,P.underlying t2,zgf s.hp y with
 | some (.slice e),some d2,some (p1,m,src,osz) =>
   if zc2 d2=true∧(tagg P e).isSome=true∧((tzero P e).bind cellsV).map List.length=some (tsz P e)∧tby P e≠0 then
    match x,dst with
    | .nils,some d=>match s.hp (s.ck,d) with
      | none=>some (p1∧(m=0∨osz=some (tsz P e))∧m * tby P e≤140737488355328∧m≤140737488355328∧∀ i,i < m→∀ v∈src i,(Pu v∨jg v=true)∧jM v=true,
       .msl (s.ck,d) 0 m,updH s.hp (s.ck,d) (.arr m (tsz P e) src))
      | some _=>none
    | .msl l off n,_=>match s.hp l with
      | some (.arr n' sz get)=>some (p1∧off=0∧n=n'∧sz=tsz P e∧(m=0∨osz=some (tsz P e))∧(n+m) * tby P e≤140737488355328∧n+m≤140737488355328∧∀ i,i < m→∀ v∈src i,(Pu v∨jg v=true)∧jM v=true,
       .msl l 0 (n+m),updH s.hp l (.arr (n+m) (tsz P e) (fun i=>if i < n then get i else src (i - n))))
      | _=>none
    | _,_=>none
   else none
 | _,_,_=>none
theorem zdg {P:Program}{s:St}{dst:Option Tmp}{t t2:TypeId}{x y:V}{p:Prop}{v:V}{h:Heap}(e:appendR P s dst t t2 x y=some (p,v,h)) :
 ∃ p',appendN P s dst t t2 x y=some (p',v,h)∧(p→p'):=by
 unfold appendR at e
 split at e
 ·rename_i el d2 p1 m src osz h1 h2 h3
  split at e
  ·rename_i hc
   split at e
   ·rename_i d
    cases q:s.hp (s.ck,d) with
    | some x=>simp[q] at e
    | none =>
      simp only[q,Option.some.injEq,Prod.mk.injEq] at e
      obtain⟨rfl,rfl,rfl⟩:=e
      refine⟨p1∧(m=0∨osz=some (tsz P el))∧m * tby P el≤140737488355328∧m≤140737488355328∧∀ i,i < m→∀ v∈src i,(Pu v∨jg v=true)∧jM v=true,?_,fun⟨a,b,c,d,f⟩=>⟨a,b,c,d,fun i hi v hv=>⟨.inl (f i hi v hv).1,(f i hi v hv).2⟩⟩⟩
      simp only[appendN,h1,h2,h3,if_pos hc,q]
   ·rename_i l off n
    cases q:s.hp l with
    | none=>simp[q] at e
    | some ob =>
      cases ob with
      | cells cs=>simp[q] at e
      | dead=>simp[q] at e
      | raw r=>simp[q] at e
      | buf _ _ _=>simp[q] at e
      | arr n' sz get =>
        simp only[q,Option.some.injEq,Prod.mk.injEq] at e
        obtain⟨rfl,rfl,rfl⟩:=e
        refine⟨p1∧off=0∧n=n'∧sz=tsz P el∧(m=0∨osz=some (tsz P el))∧(n+m) * tby P el≤140737488355328∧n+m≤140737488355328∧∀ i,i < m→∀ v∈src i,(Pu v∨jg v=true)∧jM v=true,?_,
         fun⟨a,b,c,d,f,g,h,k⟩=>⟨a,b,c,d,f,g,h,fun i hi v hv=>⟨.inl (k i hi v hv).1,(k i hi v hv).2⟩⟩⟩
        simp only[appendN,h1,h2,h3,if_pos hc,q]
   ·cases e
  ·cases e
 ·cases e
theorem zdf {P:Program}{s:St}{dst:Option Tmp}{t t2:TypeId}{x y:V}{p:Prop}{l:Loc}{n:Nat}{h:Heap}{n' sz:Nat}{get:Nat→List V}(hx:∃ l0 o0,x=.msl l0 o0 0)(e:appendR P s dst t t2 x y=some (p,.msl l 0 n,h))(hp:p)
 (hl:h l=some (.arr n' sz get)):∀ (i j:Nat) (v:V),i < n'→(get i)[j]?=some v→Pu v:=by
 obtain⟨l0,o0,rfl⟩:=hx
 unfold appendR at e
 split at e
 ·rename_i el d2 p1 m src osz h1 h2 h3
  split at e
  ·rename_i hc
   simp only at e
   cases q:s.hp l0 with
   | none=>simp[q] at e
   | some ob =>
     cases ob with
     | cells cs=>simp[q] at e
     | dead=>simp[q] at e
     | raw r=>simp[q] at e
     | buf _ _ _=>simp[q] at e
     | arr n2 sz2 get2 =>
       simp only[q,Option.some.injEq,Prod.mk.injEq,V.msl.injEq] at e
       obtain⟨rfl,⟨rfl,-,rfl⟩,rfl⟩:=e
       rw[zd] at hl
       cases hl
       intro i j v hi hv
       have hv':(src i)[j]?=some v:=by simpa using hv
       exact(hp.2.2.2.2.2.2.2 i (by omega) v (yi hv')).1
  ·cases e
 ·cases e
theorem zdM {k:K}{ys:Array Value}{m sz:Nat}{src:Nat→List V}(hs:ys.size=m * sz)(hl:∀ i,i < m→(src i).length=sz)(h1:∀ i,i < m→∀ v∈src i,(Pu v∨jg v=true)∧jM v=true)
 (hr:∀ (i j:Nat) (v:V),i < m→(src i)[j]?=some v→j < sz∧R k v (ys.getD (i * sz+j) undef)):∀ v∈ys.toList,v.oneCell'=true:=by
 intro v hv
 obtain⟨q,hq⟩:=List.mem_iff_getElem?.1 hv
 have hq2:ys[q]?=some v:=by simpa using hq
 have hlt:q < m * sz:=by rw[← hs];exact(Array.getElem?_eq_some_iff.1 hq2).1
 have hpos:0 < sz:=by
  rcases Nat.eq_zero_or_pos sz with z | z
  ·rw[z] at hlt;simp at hlt
  ·exact z
 have hi:q / sz < m:=by rw[Nat.div_lt_iff_lt_mul hpos];exact hlt
 have hj:q % sz < (src (q / sz)).length:=by rw[hl _ hi];exact Nat.mod_lt _ hpos
 have hg:(src (q / sz))[q % sz]?=some (src (q / sz))[q % sz]:=List.getElem?_eq_getElem hj
 have h2:=(hr _ _ _ hi hg).2
 have e:q / sz * sz+q % sz=q:=by rw[Nat.mul_comm];exact Nat.div_add_mod q sz
 rw[e,getD_some hq2] at h2
 exact zlx h2 (h1 _ hi _ (yi hg)).2
theorem qP {X:Cx}(hX:X.Ok){o:Oper}{t t2:TypeId}{x y:Operand}{s:St}(ho:o.op=.call { callee:=.builtin .append,args:=#[x,y],argTypes:=#[t,t2] }){pre:Prop}{r:V}{hp':Heap}
 (h:appendN X.P s o.dst t t2 (ev X s x) (ev X s y)=some (pre,r,hp')) (hpre:pre) (M:Nat→Prop) (B:Loc→Option (Nat×Nat)) (a:Act) (w:World) (hst:Step X.k0 (mkK w M B s.hp s.ck)) (hho:HeapOk (mkK w M B s.hp s.ck))
 (htm:zag (mkK w M B s.hp s.ck) s.tm a.tmps) :
 ∃ cv w' M' B',(execOp a.eval o).run X.P w=.ok (.value cv) w'∧Step (mkK w M B s.hp s.ck) (mkK w' M' B' hp' s.ck)∧HeapOk (mkK w' M' B' hp' s.ck)∧R (mkK w' M' B' hp' s.ck) r cv:=by
 have hev:∀ y,R (mkK w M B s.hp s.ck) (ev X s y) (a.eval y):=fun y=>zcw hX (ds:=a.defers) hst htm y
 have hx:=hev x
 have hy:=hev y
 have hexec:∀ {cv:Value} {w':World},(Builtin.append_ #[t,t2] o.type #[a.eval x,a.eval y]).run X.P w=.ok cv w'→(execOp a.eval o).run X.P w=.ok (.value cv) w':=by
  intro cv w' hc
  simp[execOp,ho,resolve,invoke,builtin,hc]
 unfold appendN at h
 split at h
 ·rename_i e d2 p1 m src osz hu hu2 hsrc
  split at h
  ·rename_i hcond
   obtain⟨hd2,hg,hzl,hb0⟩:=hcond
   have hd2':d2=.string∨∃ e2,d2=.slice e2:=by cases d2 <;> simp[zc2] at hd2 <;> first | exact .inl rfl | exact .inr ⟨_,rfl⟩
   obtain⟨b,hb⟩:=Option.isSome_iff_exists.1 hg
   obtain⟨i,hi⟩:∃ i,X.P.info? e=some i:=by
    unfold tagg at hb
    cases q:X.P.underlying e with
    | none=>simp[q] at hb
    | some dd=>exact yy q
   have hby:tby X.P e=i.bytes:=by simp[tby,hi]
   cases hz0:tzero X.P e with
   | none=>simp[hz0] at hzl
   | some z0 =>
     cases hz1:cellsV z0 with
     | none=>simp[hz0,hz1] at hzl
     | some z =>
       simp only[hz0,hz1,Option.bind_some,Option.map_some,Option.some.injEq] at hzl
       have hzrun:∃ cz,(∀ w':World,(zeroValue e).run X.P w'=.ok cz w')∧cz.cells.size=tsz X.P e:=by
        unfold tzero at hz0
        cases hq:i.zero with
        | none=>simp[hi,hq] at hz0
        | some cz =>
          refine⟨cz,fun w'=>by simp[zeroValue,typeInfo,hi,hq],?_⟩
          simp only[hi,Option.bind_some,hq,Option.map_some,Option.some.injEq] at hz0
          subst hz0
          rw[← hzl]
          exact(vH (qn (mkK w M B s.hp s.ck) cz) hz1).1
       obtain⟨cz,hcz,hczs⟩:=hzrun
       have hsz:∀ w':World,(sizeOf e).run X.P w'=.ok (tsz X.P e) w':=zD hb
       split at h
       ·rename_i d hxe hd
        rw[hxe] at hx
        have hxv:=hx.nils_inv
        split at h
        ·rename_i hfree
         simp only[Option.some.injEq,Prod.mk.injEq] at h
         obtain⟨rfl,rfl,rfl⟩:=h
         obtain⟨hp1,hosz,hbytes,hmax,hone⟩:=hpre
         obtain⟨hlen,ys,hys,hyss,hsl,hyr⟩:=zaG (P:=X.P) hho hy hsrc hp1 hosz (Nat.le_refl m)
         by_cases hm0:m=0
         ·subst hm0
          obtain⟨q1,q2,q3⟩:=zgE hho (l:=(s.ck,d)) hfree rfl (tsz X.P e) src
          refine⟨.slice none 0 0,w,_,_,hexec ?_,q1,q2,q3⟩
          rw[hxv]
          exact vF hu hu2 hd2' hsz hlen (hys w rfl) (Nat.le_refl 0) (base:=none) rfl
         ·have hroom:0 < 0+m:=by omega
          have hcap:Builtin.nextslicecap (0+m) 0 * i.bytes≤281474976710656:=growslice_fits (by omega) (by rw[Nat.zero_add,← hby];exact hbytes)
          obtain⟨c',hc',hrun⟩:=vj (ty:=o.type) hu hu2 hd2' hsz hi hcz (by rw[← hby];exact hb0) (base:=none) (n:=0) (c:=0) hlen hys (fun w' _=>by simp[Builtin.firstCells];rfl) hroom hcap
          obtain⟨d1,d2⟩:=zay hho
          obtain⟨q1,q2,q3⟩:=zgF d2 (l:=(s.ck,d)) hfree rfl (n:=m) (sz:=tsz X.P e) (c:=c') (get:=src) (xs:=#[]++ys++Builtin.zeroCells cz.cells (c' - (0+m))) e (by omega)
           (by simp only[Array.size_append,Array.size_empty,hyss,wY,hczs,Nat.zero_add]
               rw[← Nat.add_mul];congr 1;omega)
           hsl
           (fun i j v hi hv=>by
            obtain⟨hj,hr⟩:=hyr i j v hi hv
            have hlt:i * tsz X.P e+j < ys.size:=by
             rw[hyss]
             have:(i+1) * tsz X.P e≤m * tsz X.P e:=Nat.mul_le_mul_right _ (by omega)
             rw[Nat.add_mul] at this;omega
            have he:(#[]++ys++Builtin.zeroCells cz.cells (c' - (0+m))).getD (i * tsz X.P e+j) undef=ys.getD (i * tsz X.P e+j) undef:=by
             simp only[Array.getD_eq_getD_getElem?,Array.empty_append]
             rw[Array.getElem?_append_left hlt]
            rw[he];exact hr.step d1 fun b hb=>(hho.own b hb).1)
          refine⟨_,_,_,_,hexec ?_,d1.trans q1,q2,q3⟩
          rw[hxv]
          rw[Nat.zero_add] at hrun ⊢
          exact hrun
        ·cases h
       ·rename_i l off n hxe
        rw[hxe] at hx
        cases ho2:s.hp l with
        | none=>simp[ho2] at h
        | some ob =>
          cases ob with
          | cells cs=>simp[ho2] at h
          | dead=>simp[ho2] at h
          | raw r=>simp[ho2] at h
          | buf _ _ _=>simp[ho2] at h
          | arr n' sz get =>
            simp only[ho2,Option.some.injEq,Prod.mk.injEq] at h
            obtain⟨rfl,rfl,rfl⟩:=h
            obtain⟨hp1,hoff,hn,hszz,hosz,hbytes,hmax,hone⟩:=hpre
            subst hoff
            subst hn
            subst hszz
            obtain⟨hlen,ys,hys,hyss,hsl,hyr⟩:=zaG (P:=X.P) hho hy hsrc hp1 hosz (Nat.le_refl m)
            obtain⟨g1,g2,g3⟩:=hho.obj l _ ho2
            have hx':=hx
            generalize hq:a.eval x=cx at hx
            cases hx with
            | msl _ _ _ _ h1c hnm hh =>
              obtain⟨q1,q2⟩:=hh _ _ _ ho2
              have hcx:=q2 (by omega)
              have hget:∀ i,i < n+m→((fun i=>if i < n then get i else src (i - n)) i).length=tsz X.P e:=by
               intro i hi
               by_cases e:i < n
               ·simp only[e,if_true];exact g1 i e
               ·simp only[e,if_false];exact hsl _ (by omega)
              have hcell:∀ (xs:Array Value) (k':K),(∀ (i j:Nat) (v:V),i < n→(get i)[j]?=some v→R k' v (xs.getD (i * tsz X.P e+j) undef)) →
               (∀ (i j:Nat) (v:V),i < m→(src i)[j]?=some v→R k' v (xs.getD ((n+i) * tsz X.P e+j) undef)) →
               ∀ (i j:Nat) (v:V),i < n+m→((fun i=>if i < n then get i else src (i - n)) i)[j]?=some v→R k' v (xs.getD (i * tsz X.P e+j) undef):=by
               intro xs k' a1 a2 i j v hi hv
               by_cases e:i < n
               ·simp only[e,if_true] at hv;exact a1 i j v e hv
               ·simp only[e,if_false] at hv
                have:=a2 (i - n) j v (by omega) hv
                rwa [show n+(i - n)=i by omega] at this
              have hrow:∀ i j,i < m→j < tsz X.P e→i * tsz X.P e+j < ys.size:=by
               intro i j hi hj
               rw[hyss]
               have:(i+1) * tsz X.P e≤m * tsz X.P e:=Nat.mul_le_mul_right _ (by omega)
               rw[Nat.add_mul] at this;omega
              cases hB:(mkK w M B s.hp s.ck).B l with
              | none =>
                simp only[hB] at g3
                subst g3
                simp only[hB,mslVal] at hcx
                by_cases hm0:m=0
                ·subst hm0
                 have hBl:B l=none:=hB
                 obtain⟨r1,r2⟩:=zhH hho (l:=l) ho2 (o':=.arr (0+0) (tsz X.P e) (fun i=>if i < 0 then get i else src (i - 0))) ⟨0,get,rfl,Nat.le_refl _,fun _=>rfl⟩
                  (fun k' hw hB' st=>⟨fun i hi=>by omega,trivial,by rw[hB',hBl]⟩)
                 refine⟨cx,w,M,B,hexec ?_,r1,r2,(hq ▸ hx'.step r1 fun b hb=>(hho.own b hb).1:R _ (.msl l 0 0) cx)⟩
                 rw[hq,hcx]
                 exact vF hu hu2 hd2' hsz hlen (hys w rfl) (Nat.le_refl 0) (base:=none) rfl
                ·have hroom:0 < 0+m:=by omega
                 have hcap:Builtin.nextslicecap (0+m) 0 * i.bytes≤281474976710656:=growslice_fits (by omega) (by rw[← hby];exact hbytes)
                 obtain⟨c',hc',hrun⟩:=vj (ty:=o.type) hu hu2 hd2' hsz hi hcz (by rw[← hby];exact hb0) (base:=none) (n:=0) (c:=0) hlen hys (olds:=#[]) (fun w' _=>by simp[Builtin.firstCells]) hroom hcap
                 obtain⟨dr1,dr2⟩:=zay hho
                 obtain⟨q1',q2',q3'⟩:=zms dr2 (l:=l) ho2 (n':=0+m) (c:=c') (get':=fun i=>if i < 0 then get i else src (i - 0)) (xs:=#[]++ys++Builtin.zeroCells cz.cells (c' - (0+m))) e (by omega) hc'
                  (by simp only[Array.size_append,Array.size_empty,hyss,wY,hczs,Nat.zero_add]
                      rw[← Nat.add_mul];congr 1;omega)
                  hget (hcell _ _ (fun i j v hi=>by omega) (fun i j v hi hv=>by
                   obtain⟨hj,hr⟩:=hyr i j v hi hv
                   have he:(#[]++ys++Builtin.zeroCells cz.cells (c' - (0+m))).getD ((0+i) * tsz X.P e+j) undef=ys.getD (i * tsz X.P e+j) undef:=by
                    simp only[Array.getD_eq_getD_getElem?,Array.empty_append,Nat.zero_add]
                    rw[Array.getElem?_append_left (hrow i j hi hj)]
                   rw[he];exact hr.step dr1 fun b hb=>(hho.own b hb).1))
                 exact⟨_,_,_,_,hexec (by rw[hq,hcx];exact hrun),dr1.trans q1',q2',q3'⟩
              | some bc =>
                obtain⟨bb,c⟩:=bc
                simp only[hB] at g3
                obtain⟨hnc,xs,ty,fz,hh2,hz,hs,hr⟩:=g3
                simp only[hB,mslVal,Nat.zero_mul,Nat.sub_zero] at hcx
                have hBl:B l=some (bb,c):=hB
                by_cases hroom:n+m≤c
                · -- in place
                  have hfit:n * tsz X.P e+ys.toList.length≤xs.size:=by
                   rw[Array.length_toList,hyss,hs,← Nat.add_mul];exact Nat.mul_le_mul_right _ hroom
                  have hst:=run_storeCells_cells (P:=X.P) bb (n * tsz X.P e) ys.toList 0 w (fun j hj=>by
                   rw[Nat.add_zero];exact Option.isSome_iff_exists.2 ⟨_,z6 (w:=w) hh2 (by omega)⟩) (fun j hj=>v8 hh2 hz) (zdM hyss hsl hone hyr)
                  rw[Nat.add_zero] at hst
                  obtain⟨r1,r2⟩:=vi hho (l:=l) ho2 (o':=.arr (n+m) (tsz X.P e) (fun i=>if i < n then get i else src (i - n))) (b:=bb) (c:=c) hBl ⟨n,get,rfl,by omega,fun _=>rfl⟩ (w':=w.setCells bb (n * tsz X.P e) ys.toList)
                   (yE _) (fun x hx=>yu _ hx) (fun k' hw hB' st=>by
                    refine⟨hget,trivial,?_⟩
                    rw[hB']
                    refine⟨hroom,yc xs (n * tsz X.P e) ys.toList,ty,fz,by rw[hw];exact yF _ hh2,hz,by rw[yQ];exact hs,hcell _ _ (fun i j v hi hv=>?_) fun i j v hi hv=>?_⟩
                    ·have hj:j < tsz X.P e:=by have:=(List.getElem?_eq_some_iff.1 hv).1;rw[g1 i hi] at this;exact this
                     rw[vb _ _ _ _ (.inl (by
                      have:(i+1) * tsz X.P e≤n * tsz X.P e:=Nat.mul_le_mul_right _ (by omega)
                      rw[Nat.add_mul] at this;omega))]
                     exact(hr i j v hi hv).step st fun b hb=>(hho.own b hb).1
                    ·obtain⟨hj,hr'⟩:=hyr i j v hi hv
                     have hin:∀ (vs:List Value) (zs:Array Value) (o q:Nat),q < vs.length→o+vs.length≤zs.size→(yc zs o vs).getD (o+q) undef=vs.getD q undef:=by
                      intro vs
                      induction vs with
                      | nil=>intro zs o q h;simp at h
                      | cons u vs ih =>
                        intro zs o q h hle
                        rw[yc]
                        cases q with
                        | zero =>
                          rw[vb _ _ _ _ (.inl (by omega))]
                          simp only[List.length_cons] at hle
                          simp[Array.getD_eq_getD_getElem?,Array.getElem?_setIfInBounds,show o < zs.size by omega]
                        | succ q =>
                          simp only[List.length_cons] at h hle
                          have:=ih (zs.setIfInBounds o u) (o+1) q (by omega) (by simpa using by omega)
                          rw[show o+(q+1)=o+1+q by omega,this]
                          simp[List.getD_eq_getElem?_getD]
                     have h9:=hin ys.toList xs (n * tsz X.P e) (i * tsz X.P e+j) (by rw[Array.length_toList];exact hrow i j hi hj) hfit
                     rw[show (n+i) * tsz X.P e+j=n * tsz X.P e+(i * tsz X.P e+j) by rw[Nat.add_mul];omega,h9]
                     have h10:ys.toList.getD (i * tsz X.P e+j) undef=ys.getD (i * tsz X.P e+j) undef:=by
                      simp[List.getD_eq_getElem?_getD,Array.getD_eq_getD_getElem?]
                     rw[h10]
                     exact hr'.step st fun b hb=>(hho.own b hb).1)
                  refine⟨.slice (some ⟨bb,0,none⟩) (n+m) c,_,M,B,hexec ?_,r1,r2,.msl _ _ _ _ rfl (r1.nm l hnm) fun n2 sz2 get2 hg2=>?_⟩
                  ·rw[hq,hcx]
                   refine vF hu hu2 hd2' hsz hlen (hys w rfl) hroom ?_
                   show (storeCells ((⟨bb,0,none⟩:Addr).add (n * tsz X.P e)) ys.toList).run X.P w=_
                   rw[w5,Nat.zero_add]
                   exact hst
                  ·have hg3:updH s.hp l (.arr (n+m) (tsz X.P e) (fun i=>if i < n then get i else src (i - n))) l=some (.arr n2 sz2 get2):=hg2
                   rw[zd] at hg3
                   cases hg3
                   refine⟨by omega,fun _=>?_⟩
                   show _=mslVal (B l) 0 _ _
                   rw[hBl]
                   simp[mslVal]
                · -- a new block
                  have hcap:Builtin.nextslicecap (n+m) c * i.bytes≤281474976710656:=growslice_fits (by omega) (by rw[← hby];exact hbytes)
                  have holds:=zaG (P:=X.P) hho (x:=.msl l 0 n) (cx:=cx) (by rw[← hq];exact hq ▸ hx') (pre:=0+n=n) (n:=n) (get:=fun i=>get (0+i)) (osz:=some (tsz X.P e)) (sz:=tsz X.P e) (by
                   have:(mkK w M B s.hp s.ck).hp l=some (.arr n (tsz X.P e) get):=ho2
                   simp[zgf,this]) (by omega) (.inr rfl) (Nat.le_refl n)
                  obtain⟨_,olds,holdr,holds1,holds2,holds3⟩:=holds
                  rw[hcx] at holdr
                  obtain⟨c',hc',hrun⟩:=vj (ty:=o.type) hu hu2 hd2' hsz hi hcz (by rw[← hby];exact hb0) (base:=some ⟨bb,0,none⟩) (n:=n) (c:=c) hlen hys holdr (by omega) hcap
                  obtain⟨dr1,dr2⟩:=zay hho
                  have holdrow:∀ i j,i < n→j < tsz X.P e→i * tsz X.P e+j < olds.size:=by
                   intro i j hi hj
                   rw[holds1]
                   have:(i+1) * tsz X.P e≤n * tsz X.P e:=Nat.mul_le_mul_right _ (by omega)
                   rw[Nat.add_mul] at this;omega
                  obtain⟨q1',q2',q3'⟩:=zms dr2 (l:=l) ho2 (n':=n+m) (c:=c') (get':=fun i=>if i < n then get i else src (i - n)) (xs:=olds++ys++Builtin.zeroCells cz.cells (c' - (n+m))) e (by omega) hc'
                   (by simp only[Array.size_append,hyss,holds1,wY,hczs]
                       rw[← Nat.add_mul,← Nat.add_mul];congr 1;omega)
                   hget (hcell _ _ (fun i j v hi hv=>by
                    obtain⟨hj,hr'⟩:=holds3 i j v hi (by rw[Nat.zero_add];exact hv)
                    have he:(olds++ys++Builtin.zeroCells cz.cells (c' - (n+m))).getD (i * tsz X.P e+j) undef=olds.getD (i * tsz X.P e+j) undef:=by
                     simp only[Array.getD_eq_getD_getElem?]
                     rw[Array.append_assoc,Array.getElem?_append_left (holdrow i j hi hj)]
                    rw[he];exact hr'.step dr1 fun b hb=>(hho.own b hb).1) (fun i j v hi hv=>by
                    obtain⟨hj,hr'⟩:=hyr i j v hi hv
                    have he:(olds++ys++Builtin.zeroCells cz.cells (c' - (n+m))).getD ((n+i) * tsz X.P e+j) undef=ys.getD (i * tsz X.P e+j) undef:=by
                     simp only[Array.getD_eq_getD_getElem?]
                     rw[Array.append_assoc,Array.getElem?_append_right (by rw[holds1,Nat.add_mul];omega),holds1,
                      show (n+i) * tsz X.P e+j - n * tsz X.P e=i * tsz X.P e+j by rw[Nat.add_mul];omega,Array.getElem?_append_left (hrow i j hi hj)]
                    rw[he];exact hr'.step dr1 fun b hb=>(hho.own b hb).1))
                  exact⟨_,_,_,_,hexec (by rw[hq,hcx];exact hrun),dr1.trans q1',q2',q3'⟩
       ·cases h
  ·cases h
 ·cases h
theorem zc1 {w:World}{M:Nat→Prop}{B:Loc→Option (Nat×Nat)}{hp:Heap}{ck:Nat}(hk:HeapOk (mkK w M B hp ck)){l:Loc}{n sz:Nat}{get:Nat→List V}(hl:hp l=some (.arr n sz get))(hpr:∀ (i j:Nat) (v:V),i < n→(get i)[j]?=some v→Pu v) :
 ∃ M' B',Step (mkK w M B hp ck) (mkK w M' B' (updH hp l .dead) ck)∧HeapOk (mkK w M' B' (updH hp l .dead) ck) ∧
  ∀ cv,R (mkK w M B hp ck) (.msl l 0 n) cv→R (mkK w M' B' (updH hp l .dead) ck) (.sl n sz get) cv:=by
 let k':K:=mkK w (fun b=>M b∧∀ c,B l≠some (b,c)) (yl B l none) (updH hp l .dead) ck
 have hold:∀ l':Loc,l'≠l→updH hp l .dead l'=hp l'∧yl B l none l'=B l':=fun l' h=>⟨zc h,vx h⟩
 have hown:∀ b,k'.owned b→∃ l' o c,l'≠l∧hp l'=some o∧B l'=some (b,c):=by
  rintro b ⟨l',o',c',h1,h2⟩
  by_cases e:l'=l
  ·subst e
   have:yl B l' none l'=some (b,c'):=h2
   rw[zR] at this
   cases this
  ·have h3:updH hp l .dead l'=some o':=h1
   have h4:yl B l none l'=some (b,c'):=h2
   rw[(hold l' e).1] at h3;rw[(hold l' e).2] at h4
   exact⟨l',o',c',e,h3,h4⟩
 have st:Step (mkK w M B hp ck) k':=by
  refine⟨rfl,rfl,rfl,Nat.le_refl _,fun _ _ _=>rfl,fun b hb=>?_,fun b _ hm=>hm.1,fun b _ ho hm=>⟨hm,fun c hc=>ho ⟨l,_,c,hl,hc⟩⟩,fun l' h=>ye h,fun l' hl' o' ho'=>?_⟩
  ·obtain⟨l',o,c,_,h1,h2⟩:=hown b hb
   exact .inl ⟨l',o,c,h1,h2⟩
  ·by_cases e:l'=l
   ·subst e
    have h3:updH hp l' .dead l'=some o':=ho'
    rw[zd] at h3
    cases h3
    trivial
   ·have h3:updH hp l .dead l'=some o':=ho'
    rw[(hold l' e).1] at h3
    have q:=(Step.refl (mkK w M B hp ck)).names l' hl' o' h3
    cases o' with
    | dead=>trivial
    | raw r=>trivial
    | cells cs=>exact⟨q.1,(hold l' e).2⟩
    | buf _ _ _=>exact⟨q.1,(hold l' e).2⟩
    | arr n sz get=>obtain⟨n0,g0,q1,q2,q3⟩:=q;exact⟨n0,g0,q1,q2,fun _=>(hold l' e).2⟩
 refine⟨_,_,st,⟨fun b hb=>hk.lt b hb.1,fun b hb=>?_,fun l' o' h1=>?_,fun l1 l2 b c1 c2 o1 o2 h1 h2 h3 h4=>?_,fun l' o' h1=>?_⟩,?_⟩
 ·obtain⟨l',o,c,e,h1,h2⟩:=hown b hb
  refine⟨⟨(hk.own b ⟨l',o,c,h1,h2⟩).1,fun c' hc=>e (hk.inj l' l b c c' o _ h1 hl h2 hc)⟩,(hk.own b ⟨l',o,c,h1,h2⟩).2⟩
 ·by_cases e:l'=l
  ·subst e;exact ye (hk.nm l' _ hl)
  ·have h3:updH hp l .dead l'=some o':=h1
   rw[(hold l' e).1] at h3
   exact ye (hk.nm l' o' h3)
 ·have f:∀ l' c,yl B l none l'=some (b,c)→l'≠l:=by
   intro l' c h e
   subst e
   rw[zR] at h
   cases h
  have e1:=f l1 c1 h3
  have e2:=f l2 c2 h4
  have h1':updH hp l .dead l1=some o1:=h1
  have h2':updH hp l .dead l2=some o2:=h2
  have h3':yl B l none l1=some (b,c1):=h3
  have h4':yl B l none l2=some (b,c2):=h4
  rw[(hold l1 e1).1] at h1'
  rw[(hold l2 e2).1] at h2'
  rw[(hold l1 e1).2] at h3'
  rw[(hold l2 e2).2] at h4'
  exact hk.inj l1 l2 b c1 c2 o1 o2 h1' h2' h3' h4'
 ·by_cases e:l'=l
  ·subst e
   have h3:updH hp l' .dead l'=some o':=h1
   rw[zd] at h3
   cases h3
   exact zR B l' none
  ·have h3:updH hp l .dead l'=some o':=h1
   rw[(hold l' e).1] at h3
   exact ObjOk.step st hk h3 (by show updH hp l .dead l'=_;rw[(hold l' e).1];exact h3) (hold l' e).2 fun _ _ _=>rfl
 ·intro cv hv
  cases hv with
  | msl _ _ _ _ h1c hn h =>
    obtain⟨h1,h2⟩:=h _ _ _ hl
    have hcv:=h2 (by omega)
    obtain⟨g1,g2,g3⟩:=hk.obj l _ hl
    have hpu:Pu (.sl n sz get):=.sl _ _ _ hpr
    cases hB:(mkK w M B hp ck).B l with
    | none =>
      simp only[hB] at g3
      subst g3
      simp only[hB,mslVal] at hcv
      subst hcv
      exact .sl0 _ _ _ _
    | some bc =>
      obtain⟨b,c⟩:=bc
      simp only[hB] at g3
      obtain⟨hnc,xs,ty,fz,hh,hz,hs,hr⟩:=g3
      simp only[hB,mslVal] at hcv
      subst hcv
      refine .sl _ _ _ b (0 * sz) (c - 0) (fun i j=>xs.getD (i * sz+j) undef) (fun q=>q.2 c hB) (wt hh) (by omega) hpu (fun i hi=>g1 _ hi) (fun i j hi hj=>?_) fun i j v hi hv=>?_
      ·rw[Nat.zero_mul,Nat.zero_add]
       have hlt:i * sz+j < xs.size:=by
        rw[hs]
        have:(i+1) * sz≤c * sz:=Nat.mul_le_mul_right _ (by omega)
        rw[Nat.add_mul i] at this
        omega
       exact z6 hh hlt
      ·exact(hr i j v hi hv).step st fun b hb=>(hk.own b hb).1
def vC (P:Program)(s:St)(dst:Option Tmp)(t t2:TypeId)(x y:V):Option (Prop×V×Heap) :=
 match x,y with
 | .msl _ _ 0,.sl _ _ _ | .msl _ _ 0,.nils=>match appendR P s dst t t2 x y with
   | some (p,.msl l 0 n,hp')=>match hp' l with
     | some (.arr n' sz get)=>if n=n' then some (p,.sl n sz get,updH hp' l .dead) else none
     | _=>none
   | _=>none
 | _,_=>appendN P s dst t t2 x y
theorem zkf {X:Cx}(hX:X.Ok){o:Oper}{t t2:TypeId}{x y:Operand}{s:St}{Kn:St→Prop}(ho:o.op=.call { callee:=.builtin .append,args:=#[x,y],argTypes:=#[t,t2] }){pre:Prop}{r:V}{hp':Heap}
 (h:appendN X.P s o.dst t t2 (ev X s x) (ev X s y)=some (pre,r,hp')) (hpre:pre) (hK:Kn ⟨s.ck,putTm s.tm o.dst r,hp'⟩):y5 X o s Kn :=
 y5.of_run r hp' (by simp[ho]) (fun M B a w hst hho htm=>qP hX ho h hpre M B a w hst hho htm) hK
theorem zns {X:Cx}(hX:X.Ok){o:Oper}{t t2:TypeId}{x y:Operand}{s:St}{Kn:St→Prop}(ho:o.op=.call { callee:=.builtin .append,args:=#[x,y],argTypes:=#[t,t2] }){pre:Prop}{r:V}{hp':Heap}
 (h:vC X.P s o.dst t t2 (ev X s x) (ev X s y)=some (pre,r,hp')) (hpre:pre) (hK:Kn ⟨s.ck,putTm s.tm o.dst r,hp'⟩):y5 X o s Kn:=by
 refine y5.of_run r hp' (by simp[ho]) (fun M B a w hst hho htm=>?_) hK
 have hfin:∀ {p:Prop} {l:Loc} {n:Nat} {hp1:Heap} {n' sz:Nat} {get:Nat→List V},appendR X.P s o.dst t t2 (ev X s x) (ev X s y)=some (p,.msl l 0 n,hp1)→p→hp1 l=some (.arr n' sz get)→n=n'→(∀ (i j:Nat) (v:V),i < n'→(get i)[j]?=some v→Pu v) →
  ∃ cv w' M' B',(execOp a.eval o).run X.P w=.ok (.value cv) w'∧Step (mkK w M B s.hp s.ck) (mkK w' M' B' (updH hp1 l .dead) s.ck)∧HeapOk (mkK w' M' B' (updH hp1 l .dead) s.ck)∧R (mkK w' M' B' (updH hp1 l .dead) s.ck) (.sl n sz get) cv:=by
  intro p l n hp1 n' sz get h1 h2 h3 h4 h5
  subst h4
  obtain⟨p',e1,e2⟩:=zdg h1
  obtain⟨cv,w',M',B',q1,q2,q3,q4⟩:=qP hX ho e1 (e2 h2) M B a w hst hho htm
  obtain⟨M2,B2,r1,r2,r3⟩:=zc1 q3 h3 h5
  exact⟨cv,w',M2,B2,q1,q2.trans r1,r2,r3 cv q4⟩
 unfold vC at h
 split at h
 ·split at h
  ·rename_i p l n hp1 hap
   split at h
   ·rename_i n' sz get hg
    split at h
    ·rename_i e
     simp only[Option.some.injEq,Prod.mk.injEq] at h
     obtain⟨rfl,rfl,rfl⟩:=h
     exact hfin (by simp_all) hpre hg e (zdf ⟨_,_,by assumption⟩ hap hpre hg)
    ·cases h
   ·cases h
  ·cases h
 ·split at h
  ·rename_i p l n hp1 hap
   split at h
   ·rename_i n' sz get hg
    split at h
    ·rename_i e
     simp only[Option.some.injEq,Prod.mk.injEq] at h
     obtain⟨rfl,rfl,rfl⟩:=h
     exact hfin (by simp_all) hpre hg e (zdf ⟨_,_,by assumption⟩ hap hpre hg)
    ·cases h
   ·cases h
  ·cases h
 ·exact qP hX ho h hpre M B a w hst hho htm
def appendZ (P:Program)(s:St)(dst:Option Tmp)(t t2:TypeId)(x y:V):Option (Prop×V×Heap) :=
 match x with
 | .msl _ _ _=>match appendR P s dst t t2 x y with
   | some (p,.msl l 0 n,hp')=>match hp' l with
     | some (.arr n' sz get)=>if n=n' then some (p∧∀ i,i < n'→∀ v∈get i,Pu v,.sl n sz get,updH hp' l .dead) else none
     | _=>none
   | _=>none
 | _=>none
theorem zke {X:Cx}(hX:X.Ok){o:Oper}{t t2:TypeId}{x y:Operand}{s:St}{Kn:St→Prop}(ho:o.op=.call { callee:=.builtin .append,args:=#[x,y],argTypes:=#[t,t2] }){pre:Prop}{r:V}{hp':Heap}
 (h:appendZ X.P s o.dst t t2 (ev X s x) (ev X s y)=some (pre,r,hp')) (hpre:pre) (hK:Kn ⟨s.ck,putTm s.tm o.dst r,hp'⟩):y5 X o s Kn:=by
 refine y5.of_run r hp' (by simp[ho]) (fun M B a w hst hho htm=>?_) hK
 unfold appendZ at h
 split at h
 ·split at h
  ·rename_i p l n hp1 hap
   split at h
   ·rename_i n' sz get hg
    split at h
    ·rename_i e
     simp only[Option.some.injEq,Prod.mk.injEq] at h
     obtain⟨rfl,rfl,rfl⟩:=h
     subst e
     obtain⟨hp0,hpu⟩:=hpre
     obtain⟨p',e1,e2⟩:=zdg hap
     obtain⟨cv,w',M',B',q1,q2,q3,q4⟩:=qP hX ho e1 (e2 hp0) M B a w hst hho htm
     obtain⟨M2,B2,r1,r2,r3⟩:=zc1 q3 hg fun i j v hi hv=>hpu i hi v (yi hv)
     exact⟨cv,w',M2,B2,q1,q2.trans r1,r2,r3 cv q4⟩
    ·cases h
   ·cases h
  ·cases h
 ·cases h
theorem zhD {P:Program}{w:World}{t t2 ty e:TypeId}{sz:Nat}(ht:P.underlying t=some (.slice e))(hsz:∀ w:World,(sizeOf e).run P w=.ok sz w)
 {base:Option Addr} {n c:Nat} {cx:Value} (hlen:(Builtin.lenOf cx).run P w=.ok n w) {ys:Array Value} (hys:(Builtin.firstCells sz n cx).run P w=.ok ys w) {w':World}
 (hst:match base with | none=>w'=w | some a=>(storeCells a ys.toList).run P w=.ok () w') :
 (Builtin.copy_ #[t,t2] ty #[.slice base n c,cx]).run P w=.ok (goInt n) w':=by
 have hmin:Nat.min n n=n:=Nat.min_self n
 cases base with
 | none =>
   simp only at hst
   subst hst
   simp[Builtin.copy_,run_underlying ht,hsz,hlen,hys,hmin]
 | some a =>
   simp only at hst
   simp[Builtin.copy_,run_underlying ht,hsz,hlen,hys,hst,hmin]
def zk5 (P:Program)(s:St)(t:TypeId)(x y:V):Option (Prop×V×Heap) :=
 match P.underlying t,zgf s.hp y with
 | some (.slice e),some (p1,m,src,osz) =>
   if (tagg P e).isSome=true then
    match x with
    | .msl l off n=>match s.hp l with
      | some (.arr n' sz get)=>some (p1∧off=0∧n=n'∧m=n∧sz=tsz P e∧(m=0∨osz=some (tsz P e))∧∀ i,i < m→∀ v∈src i,Pu v∧jM v=true,
       .int .i64 n,updH s.hp l (.arr n (tsz P e) src))
      | _=>none
    | _=>none
   else none
 | _,_=>none
theorem copy_ok {X:Cx}(hX:X.Ok){o:Oper}{t t2:TypeId}{x y:Operand}{s:St}{Kn:St→Prop}(ho:o.op=.call { callee:=.builtin .copy,args:=#[x,y],argTypes:=#[t,t2] }){pre:Prop}{r:V}{hp':Heap}
 (h:zk5 X.P s t (ev X s x) (ev X s y)=some (pre,r,hp')) (hpre:pre) (hK:Kn ⟨s.ck,putTm s.tm o.dst r,hp'⟩):y5 X o s Kn:=by
 refine y5.of_run r hp' (by simp[ho]) (fun M B a w hst hho htm=>?_) hK
 have hev:∀ y,R (mkK w M B s.hp s.ck) (ev X s y) (a.eval y):=fun y=>zcw hX (ds:=a.defers) hst htm y
 have hx:=hev x
 have hy:=hev y
 have hexec:∀ {cv:Value} {w':World},(Builtin.copy_ #[t,t2] o.type #[a.eval x,a.eval y]).run X.P w=.ok cv w'→(execOp a.eval o).run X.P w=.ok (.value cv) w':=by
  intro cv w' hc
  simp[execOp,ho,resolve,invoke,builtin,hc]
 unfold zk5 at h
 split at h
 ·rename_i e p1 m src osz hu hsrc
  split at h
  ·rename_i hg
   obtain⟨b,hb⟩:=Option.isSome_iff_exists.1 hg
   have hsz:∀ w':World,(sizeOf e).run X.P w'=.ok (tsz X.P e) w':=zD hb
   split at h
   ·rename_i l off n hxe
    rw[hxe] at hx
    cases ho2:s.hp l with
    | none=>simp[ho2] at h
    | some ob =>
      cases ob with
      | cells cs=>simp[ho2] at h
      | dead=>simp[ho2] at h
      | raw r=>simp[ho2] at h
      | buf _ _ _=>simp[ho2] at h
      | arr n' sz get =>
        simp only[ho2,Option.some.injEq,Prod.mk.injEq] at h
        obtain⟨rfl,rfl,rfl⟩:=h
        obtain⟨hp1,hoff,hn,hmn,hszz,hosz,hone⟩:=hpre
        subst hoff
        subst hn
        subst hmn
        subst hszz
        obtain⟨hlen,ys,hys,hyss,hsl,hyr⟩:=zaG (P:=X.P) hho hy hsrc hp1 hosz (Nat.le_refl m)
        obtain⟨g1,g2,g3⟩:=hho.obj l _ ho2
        have hgi:goInt m=.int .i64 (m:Int):=rfl
        generalize hq:a.eval x=cx at hx
        cases hx with
        | msl _ _ _ _ h1c hnm hh =>
          obtain⟨q1,q2⟩:=hh _ _ _ ho2
          have hcx:=q2 (by omega)
          cases hB:(mkK w M B s.hp s.ck).B l with
          | none =>
            simp only[hB] at g3
            subst g3
            simp only[hB,mslVal] at hcx
            have hBl:B l=none:=hB
            obtain⟨r1,r2⟩:=zhH hho (l:=l) ho2 (o':=.arr 0 (tsz X.P e) src) ⟨0,get,rfl,Nat.le_refl _,fun _=>rfl⟩
             (fun k' hw hB' st=>⟨fun i hi=>by omega,trivial,by rw[hB',hBl]⟩)
            refine⟨.int .i64 ((0:Nat):Int),w,M,B,hexec ?_,r1,r2,.int _ _⟩
            rw[hq,hcx,← hgi]
            exact zhD hu hsz hlen (hys w rfl) (base:=none) rfl
          | some bc =>
            obtain⟨bb,c⟩:=bc
            simp only[hB] at g3
            obtain⟨hnc,xs,ty,fz,hh2,hz,hs,hr⟩:=g3
            simp only[hB,mslVal,Nat.zero_mul,Nat.sub_zero] at hcx
            have hBl:B l=some (bb,c):=hB
            have hfit:0+ys.toList.length≤xs.size:=by
             rw[Array.length_toList,hyss,hs,Nat.zero_add];exact Nat.mul_le_mul_right _ hnc
            have hstc:=run_storeCells_cells (P:=X.P) bb 0 ys.toList 0 w (fun j hj=>by
             rw[Nat.add_zero];exact Option.isSome_iff_exists.2 ⟨_,z6 (w:=w) hh2 (by omega)⟩) (fun j hj=>v8 hh2 hz) (zdM hyss hsl (fun i hi v hv=>⟨.inl (hone i hi v hv).1,(hone i hi v hv).2⟩) hyr)
            rw[Nat.add_zero] at hstc
            have hrow:∀ i j,i < m→j < tsz X.P e→i * tsz X.P e+j < ys.size:=by
             intro i j hi hj
             rw[hyss]
             have:(i+1) * tsz X.P e≤m * tsz X.P e:=Nat.mul_le_mul_right _ (by omega)
             rw[Nat.add_mul] at this;omega
            obtain⟨r1,r2⟩:=vi hho (l:=l) ho2 (o':=.arr m (tsz X.P e) src) (b:=bb) (c:=c) hBl ⟨m,get,rfl,by omega,fun _=>rfl⟩ (w':=w.setCells bb 0 ys.toList)
             (yE _) (fun x hx=>yu _ hx) (fun k' hw hB' st=>by
              refine⟨hsl,trivial,?_⟩
              rw[hB']
              refine⟨hnc,yc xs 0 ys.toList,ty,fz,by rw[hw];exact yF _ hh2,hz,by rw[yQ];exact hs,fun i j v hi hv=>?_⟩
              obtain⟨hj,hr'⟩:=hyr i j v hi hv
              have hin:∀ (vs:List Value) (zs:Array Value) (o q:Nat),q < vs.length→o+vs.length≤zs.size→(yc zs o vs).getD (o+q) undef=vs.getD q undef:=by
               intro vs
               induction vs with
               | nil=>intro zs o q h;simp at h
               | cons u vs ih =>
                 intro zs o q h hle
                 rw[yc]
                 cases q with
                 | zero =>
                   rw[vb _ _ _ _ (.inl (by omega))]
                   simp only[List.length_cons] at hle
                   simp[Array.getD_eq_getD_getElem?,Array.getElem?_setIfInBounds,show o < zs.size by omega]
                 | succ q =>
                   simp only[List.length_cons] at h hle
                   have:=ih (zs.setIfInBounds o u) (o+1) q (by omega) (by simpa using by omega)
                   rw[show o+(q+1)=o+1+q by omega,this]
                   simp[List.getD_eq_getElem?_getD]
              have h9:=hin ys.toList xs 0 (i * tsz X.P e+j) (by rw[Array.length_toList];exact hrow i j hi hj) hfit
              rw[Nat.zero_add] at h9
              rw[h9]
              have h10:ys.toList.getD (i * tsz X.P e+j) undef=ys.getD (i * tsz X.P e+j) undef:=by
               simp[List.getD_eq_getElem?_getD,Array.getD_eq_getD_getElem?]
              rw[h10]
              exact hr'.step st fun b hb=>(hho.own b hb).1)
            refine⟨.int .i64 (m:Int),_,M,B,hexec ?_,r1,r2,.int _ _⟩
            rw[hq,hcx,← hgi]
            exact zhD hu hsz hlen (hys w rfl) (base:=some ⟨bb,0,none⟩) hstc
   ·cases h
  ·cases h
 ·cases h
theorem y5.of_run2 {X:Cx}{o:Oper}{s:St}{Kn:St→Prop}(hno:∀ c,o.op≠.defer c)
 (h:∀ (M:Nat→Prop) (B:Loc→Option (Nat×Nat)) (a:Act) (w:World),Step X.k0 (mkK w M B s.hp s.ck)→HeapOk (mkK w M B s.hp s.ck)→zag (mkK w M B s.hp s.ck) s.tm a.tmps →
  ∃ v hp' cv w' M' B',Kn ⟨s.ck,putTm s.tm o.dst v,hp'⟩∧(execOp a.eval o).run X.P w=.ok (.value cv) w'∧Step (mkK w M B s.hp s.ck) (mkK w' M' B' hp' s.ck)∧HeapOk (mkK w' M' B' hp' s.ck)∧R (mkK w' M' B' hp' s.ck) v cv):y5 X o s Kn:=by
 intro a w ⟨M,B,hst,hho,htm,hmk⟩ next Q hn
 obtain⟨v,hp',cv,w',M',B',hK,hrun,hst',hho',hv⟩:=h M B a w hst hho htm
 refine ym hno ?_
 rw[hrun]
 have hown:∀ b,(mkK w M B s.hp s.ck).owned b→(mkK w M B s.hp s.ck).M b:=fun b hb=>(hho.own b hb).1
 refine hn _ _ _ hK ⟨M',B',hst.trans hst',hho',(htm.step hst' hown).put hv,?_⟩
 have:(a.put o.dst cv).defers=a.defers:=by cases o.dst <;> rfl
 rw[this]
 exact hmk.step hst'
theorem zkB:∀ (vs:List Value) (zs:Array Value) (o q:Nat),q < vs.length→o+vs.length≤zs.size→(yc zs o vs).getD (o+q) undef=vs.getD q undef:=by
 intro vs
 induction vs with
 | nil=>intro zs o q h;simp at h
 | cons u vs ih =>
   intro zs o q h hle
   rw[yc]
   cases q with
   | zero =>
     rw[vb _ _ _ _ (.inl (by omega))]
     simp only[List.length_cons] at hle
     simp[Array.getD_eq_getD_getElem?,Array.getElem?_setIfInBounds,show o < zs.size by omega]
   | succ q =>
     simp only[List.length_cons] at h hle
     have:=ih (zs.setIfInBounds o u) (o+1) q (by omega) (by simpa using by omega)
     rw[show o+(q+1)=o+1+q by omega,this]
     simp[List.getD_eq_getElem?_getD]
def qW (get:Nat→List V)(p m:Nat)(src:Nat→List V)(i:Nat):List V:=if p≤i∧i < p+m then src (i - p) else get i
theorem zfX {P:Program}{w:World}{M:Nat→Prop}{B:Loc→Option (Nat×Nat)}{hp:Heap}{ck:Nat}(hk:HeapOk (mkK w M B hp ck)){l:Loc}{c sz:Nat}{get:Nat→List V}(hl:hp l=some (.buf c sz get))
 {b:Nat} (hb:B l=some (b,c)) {p m:Nat} {src:Nat→List V} {ys:Array Value} (hpm:p+m≤c) (hys:ys.size=m * sz) (hsl:∀ i,i < m→(src i).length=sz)
 (h1:∀ i,i < m→∀ v∈src i,(Pu v∨jg v=true)∧jM v=true) (hyr:∀ (i j:Nat) (v:V),i < m→(src i)[j]?=some v→j < sz∧R (mkK w M B hp ck) v (ys.getD (i * sz+j) undef)) :
 (storeCells ⟨b,p * sz,none⟩ ys.toList).run P w=.ok () (w.setCells b (p * sz) ys.toList) ∧
 Step (mkK w M B hp ck) (mkK (w.setCells b (p * sz) ys.toList) M B (updH hp l (.buf c sz (qW get p m src))) ck)∧HeapOk (mkK (w.setCells b (p * sz) ys.toList) M B (updH hp l (.buf c sz (qW get p m src))) ck):=by
 obtain⟨g1,b0,xs,ty,fz,hB,hh,hz,hs,hr⟩:=hk.obj l _ hl
 have hbb:B l=some (b0,c):=hB
 obtain rfl:b=b0:=by rw[hb] at hbb;cases hbb;rfl
 have hfit:p * sz+ys.toList.length≤xs.size:=by
  rw[Array.length_toList,hys,hs,← Nat.add_mul];exact Nat.mul_le_mul_right _ hpm
 have hst:=run_storeCells_cells (P:=P) b (p * sz) ys.toList 0 w (fun j hj=>by
  rw[Nat.add_zero];exact Option.isSome_iff_exists.2 ⟨_,z6 (w:=w) hh (by omega)⟩) (fun j hj=>v8 hh hz) (zdM hys hsl h1 hyr)
 rw[Nat.add_zero] at hst
 refine⟨hst,?_⟩
 refine vi hk (l:=l) hl (o':=.buf c sz (qW get p m src)) (b:=b) (c:=c) hb ⟨⟨get,rfl⟩,rfl⟩ (w':=w.setCells b (p * sz) ys.toList)
  (yE _) (fun x hx=>yu _ hx) (fun k' hw hB' st=>?_)
 refine⟨fun i hi=>?_,b,yc xs (p * sz) ys.toList,ty,fz,hB',by rw[hw];exact yF _ hh,hz,by rw[yQ];exact hs,fun i j v hi hv=>?_⟩
 ·unfold qW
  split
  ·exact hsl _ (by omega)
  ·exact g1 i hi
 ·unfold qW at hv
  split at hv
  ·rename_i hin
   obtain⟨hj,hr'⟩:=hyr (i - p) j v (by omega) hv
   have e1:i * sz+j=p * sz+((i - p) * sz+j):=by
    have:i * sz=(p+(i - p)) * sz:=by rw[show p+(i - p)=i by omega]
    rw[this,Nat.add_mul];omega
   have hlt:(i - p) * sz+j < ys.toList.length:=by
    rw[Array.length_toList,hys]
    have:(i - p+1) * sz≤m * sz:=Nat.mul_le_mul_right _ (by omega)
    rw[Nat.add_mul] at this;omega
   rw[e1,zkB _ _ _ _ hlt hfit]
   have h10:ys.toList.getD ((i - p) * sz+j) undef=ys.getD ((i - p) * sz+j) undef:=by
    simp[List.getD_eq_getElem?_getD,Array.getD_eq_getD_getElem?]
   rw[h10]
   exact hr'.step st fun b hb=>(hk.own b hb).1
  ·rename_i hout
   have hj:j < sz:=by have:=(List.getElem?_eq_some_iff.1 hv).1;rw[g1 i hi] at this;exact this
   have ho:i * sz+j < p * sz∨p * sz+ys.toList.length≤i * sz+j:=by
    rw[Array.length_toList,hys]
    rcases Nat.lt_or_ge i p with q | q
    ·left
     have:(i+1) * sz≤p * sz:=Nat.mul_le_mul_right _ (by omega)
     rw[Nat.add_mul] at this;omega
    ·right
     have:(p+m) * sz≤i * sz:=Nat.mul_le_mul_right _ (by omega)
     rw[Nat.add_mul] at this;omega
   rw[vb _ _ _ _ ho]
   exact(hr i j v hi hv).step st fun b hb=>(hk.own b hb).1
theorem buf_new {w:World}{M:Nat→Prop}{B:Loc→Option (Nat×Nat)}{hp:Heap}{ck:Nat}(hk:HeapOk (mkK w M B hp ck)){l:Loc}(hl:hp l=none)(hck:l.1=ck)
 {sz c:Nat} {get:Nat→List V} {xs:Array Value} (ty:TypeId) (hs:xs.size=c * sz) (hlen:∀ i,i < c→(get i).length=sz)
 (hr:∀ (i j:Nat) (v:V),i < c→(get i)[j]?=some v→R (mkK w M B hp ck) v (xs.getD (i * sz+j) undef)) (n:Nat) (hn:n≤c) :
 let k':=mkK (w.alloc (.cells xs ty)) (fun b=>M b∨b=w.heap.size) (yl B l (some (w.heap.size,c))) (updH hp l (.buf c sz get)) ck
 Step (mkK w M B hp ck) k'∧HeapOk k'∧R k' (.bsl l 0 n) (.slice (some ⟨w.heap.size,0,none⟩) n c):=by
 intro k'
 have h:=zeo hk hl hck xs ty c (.buf c sz get) (fun k2 hB hh st =>
  ⟨hlen,_,xs,ty,(0,0),hB,hh,fun o=>by simp,hs,fun i j v hi hv=>(hr i j v hi hv).step st fun b hb=>(hk.own b hb).1⟩)
 refine⟨h.1,h.2,.bsl _ _ _ _ rfl (.inr ⟨hck,by show (updH hp l _ l).isSome=true;rw[zd];rfl⟩) fun c' sz' get' hg=>?_⟩
 have hg':updH hp l (.buf c sz get) l=some (.buf c' sz' get'):=hg
 rw[zd] at hg'
 cases hg'
 exact⟨_,zR _ _ _,by omega,by simp⟩
theorem zkT {P:Program}{w:World}{t t2 ty e:TypeId}{sz:Nat}(ht:P.underlying t=some (.slice e))(hsz:∀ w:World,(sizeOf e).run P w=.ok sz w)
 {a:Addr} {n c m:Nat} {cx:Value} (hlen:(Builtin.lenOf cx).run P w=.ok m w) (hmn:m≤n) {ys:Array Value} (hys:(Builtin.firstCells sz m cx).run P w=.ok ys w) {w':World}
 (hst:(storeCells a ys.toList).run P w=.ok () w') :
 (Builtin.copy_ #[t,t2] ty #[.slice (some a) n c,cx]).run P w=.ok (goInt m) w':=by
 have hmin:Nat.min m n=m:=Nat.min_eq_left hmn
 simp[Builtin.copy_,run_underlying ht,hsz,hlen,hys,hst,hmin]
def copyB (P:Program)(s:St)(t:TypeId)(x y:V):Option (Prop×V×Heap) :=
 match P.underlying t,zgf s.hp y with
 | some (.slice e),some (p1,m,src,osz) =>
   if (tagg P e).isSome=true then
    match x with
    | .bsl l off n=>match s.hp l with
      | some (.buf c sz get)=>some (p1∧m≤n∧off+n≤c∧sz=tsz P e∧(m=0∨osz=some (tsz P e))∧∀ i,i < m→∀ v∈src i,(Pu v∨jg v=true)∧jM v=true,
       .int .i64 m,updH s.hp l (.buf c (tsz P e) (qW get off m src)))
      | _=>none
    | _=>none
   else none
 | _,_=>none
theorem copyB_ok {X:Cx}(hX:X.Ok){o:Oper}{t t2:TypeId}{x y:Operand}{s:St}{Kn:St→Prop}(ho:o.op=.call { callee:=.builtin .copy,args:=#[x,y],argTypes:=#[t,t2] }){pre:Prop}{r:V}{hp':Heap}
 (h:copyB X.P s t (ev X s x) (ev X s y)=some (pre,r,hp')) (hpre:pre) (hK:Kn ⟨s.ck,putTm s.tm o.dst r,hp'⟩):y5 X o s Kn:=by
 refine y5.of_run r hp' (by simp[ho]) (fun M B a w hst hho htm=>?_) hK
 have hev:∀ y,R (mkK w M B s.hp s.ck) (ev X s y) (a.eval y):=fun y=>zcw hX (ds:=a.defers) hst htm y
 have hx:=hev x
 have hy:=hev y
 have hexec:∀ {cv:Value} {w':World},(Builtin.copy_ #[t,t2] o.type #[a.eval x,a.eval y]).run X.P w=.ok cv w'→(execOp a.eval o).run X.P w=.ok (.value cv) w':=by
  intro cv w' hc
  simp[execOp,ho,resolve,invoke,builtin,hc]
 unfold copyB at h
 split at h
 ·rename_i e p1 m src osz hu hsrc
  split at h
  ·rename_i hg
   obtain⟨b,hb⟩:=Option.isSome_iff_exists.1 hg
   have hsz:∀ w':World,(sizeOf e).run X.P w'=.ok (tsz X.P e) w':=zD hb
   split at h
   ·rename_i l off n hxe
    rw[hxe] at hx
    split at h
    ·rename_i c sz get ho2
     simp only[Option.some.injEq,Prod.mk.injEq] at h
     obtain⟨rfl,rfl,rfl⟩:=h
     obtain⟨hp1,hmn,hoc,hszz,hosz,hone⟩:=hpre
     subst hszz
     obtain⟨hlen,ys,hys,hyss,hsl,hyr⟩:=zaG (P:=X.P) hho hy hsrc hp1 hosz (Nat.le_refl m)
     have hgi:goInt m=.int .i64 (m:Int):=rfl
     generalize hq:a.eval x=cx at hx
     cases hx with
     | bsl _ _ _ _ h1c hnm hh =>
       obtain⟨bb,hB,q1,q2⟩:=hh _ _ _ ho2
       obtain⟨r1,r2,r3⟩:=zfX (P:=X.P) hho ho2 (b:=bb) hB (p:=off) (m:=m) (src:=src) (ys:=ys) (by omega) hyss hsl hone hyr
       refine⟨.int .i64 (m:Int),_,M,B,hexec ?_,r2,r3,.int _ _⟩
       rw[hq,q2,← hgi]
       exact zkT hu hsz hlen hmn (hys w rfl) r1
    ·cases h
   ·cases h
  ·cases h
 ·cases h
def zfy:V→Bool
 | .bsl _ _ _=>true
 | _=>false
def appB (P:Program)(s:St)(dst:Option Tmp)(t t2:TypeId)(x y:V)(Kn:St→Prop):Prop :=
 match P.underlying t,P.underlying t2,zgf s.hp y,x,dst with
 | some (.slice e),some d2,some (p1,m,src,osz),.bsl l off n,some d=>match s.hp l,s.hp (s.ck,d) with
   | some (.buf c sz get),none =>
     (zc2 d2=true∧(tagg P e).isSome=true∧((tzero P e).bind cellsV).map List.length=some (tsz P e)∧tby P e≠0) ∧
     (p1∧off+n≤c∧sz=tsz P e∧(m=0∨osz=some (tsz P e))∧(n+m) * tby P e≤140737488355328∧n+m≤140737488355328∧∀ i,i < m→∀ v∈src i,(Pu v∨jg v=true)∧jM v=true) ∧
     (off+n+m≤c→Kn ⟨s.ck,putTm s.tm dst (.bsl l off (n+m)),updH s.hp l (.buf c sz (qW get (off+n) m src))⟩) ∧
     (c < off+n+m→∀ c',n+m≤c'→Kn ⟨s.ck,putTm s.tm dst (.bsl (s.ck,d) 0 (n+m)),updH s.hp (s.ck,d) (.buf c' sz (fun i=>if i < n then get (off+i) else if i < n+m then src (i - n) else List.replicate sz .top))⟩)
   | _,_=>False
 | _,_,_,_,_=>False
theorem zcD {P:Program}{k:K}{e:TypeId}(hg:(tagg P e).isSome=true)(hzl:((tzero P e).bind cellsV).map List.length=some (tsz P e)) :
 ∃ i cz,P.info? e=some i∧tby P e=i.bytes∧(∀ w':World,(zeroValue e).run P w'=.ok cz w')∧cz.cells.size=tsz P e:=by
 obtain⟨b,hb⟩:=Option.isSome_iff_exists.1 hg
 obtain⟨i,hi⟩:∃ i,P.info? e=some i:=by
  unfold tagg at hb
  cases q:P.underlying e with
  | none=>simp[q] at hb
  | some dd=>exact yy q
 cases hz0:tzero P e with
 | none=>simp[hz0] at hzl
 | some z0 =>
   cases hz1:cellsV z0 with
   | none=>simp[hz0,hz1] at hzl
   | some z =>
     simp only[hz0,hz1,Option.bind_some,Option.map_some,Option.some.injEq] at hzl
     unfold tzero at hz0
     cases hq:i.zero with
     | none=>simp[hi,hq] at hz0
     | some cz =>
       refine⟨i,cz,hi,by simp[tby,hi],fun w'=>by simp[zeroValue,typeInfo,hi,hq],?_⟩
       simp only[hi,Option.bind_some,hq,Option.map_some,Option.some.injEq] at hz0
       subst hz0
       rw[← hzl]
       exact(vH (qn k cz) hz1).1
theorem zfY {w:World}{M:Nat→Prop}{B:Loc→Option (Nat×Nat)}{hp:Heap}{ck:Nat}(hk:HeapOk (mkK w M B hp ck)){l:Loc}(hl:hp l=none)(hck:l.1=ck)
 {sz n m c:Nat} {old src:Nat→List V} {os ys zs:Array Value} (ty:TypeId) (hos:os.size=n * sz) (hys:ys.size=m * sz) (hzs:zs.size=(c - (n+m)) * sz) (hc:n+m≤c)
 (ho:∀ i,i < n→(old i).length=sz) (hor:∀ (i j:Nat) (v:V),i < n→(old i)[j]?=some v→j < sz∧R (mkK w M B hp ck) v (os.getD (i * sz+j) undef))
 (hs:∀ i,i < m→(src i).length=sz) (hsr:∀ (i j:Nat) (v:V),i < m→(src i)[j]?=some v→j < sz∧R (mkK w M B hp ck) v (ys.getD (i * sz+j) undef)) :
 let k':=mkK (w.alloc (.cells (os++ys++zs) ty)) (fun b=>M b∨b=w.heap.size) (yl B l (some (w.heap.size,c))) (updH hp l (.buf c sz (fun i=>if i < n then old i else if i < n+m then src (i - n) else List.replicate sz .top))) ck
 Step (mkK w M B hp ck) k'∧HeapOk k'∧R k' (.bsl l 0 (n+m)) (.slice (some ⟨w.heap.size,0,none⟩) (n+m) c):=by
 refine buf_new hk hl hck ty ?_ (fun i hi=>?_) (fun i j v hi hv=>?_) (n+m) hc
 ·simp only[Array.size_append,hos,hys,hzs,← Nat.add_mul];congr 1;omega
 ·split
  ·exact ho i (by assumption)
  ·split
   ·exact hs _ (by omega)
   ·simp
 ·have hrow:∀ {a b j:Nat},a < b→j < sz→a * sz+j < b * sz:=fun {a b j} hab hj=>by
   have:(a+1) * sz≤b * sz:=Nat.mul_le_mul_right _ (by omega)
   rw[Nat.add_mul] at this;omega
  split at hv
  ·rename_i h1
   obtain⟨hj,hr⟩:=hor i j v h1 hv
   have hlt:i * sz+j < os.size:=by rw[hos];exact hrow h1 hj
   have he:(os++ys++zs).getD (i * sz+j) undef=os.getD (i * sz+j) undef:=by
    simp only[Array.getD_eq_getD_getElem?,Array.append_assoc]
    rw[Array.getElem?_append_left hlt]
   rw[he];exact hr
  ·split at hv
   ·rename_i h1 h2
    obtain⟨hj,hr⟩:=hsr (i - n) j v (by omega) hv
    have hlt:(i - n) * sz+j < ys.size:=by rw[hys];exact hrow (by omega) hj
    have e0:i * sz+j=os.size+((i - n) * sz+j):=by
     have:i * sz=(n+(i - n)) * sz:=by rw[show n+(i - n)=i by omega]
     rw[this,Nat.add_mul,hos];omega
    have he:(os++ys++zs).getD (i * sz+j) undef=ys.getD ((i - n) * sz+j) undef:=by
     simp only[Array.getD_eq_getD_getElem?,Array.append_assoc]
     rw[e0,Array.getElem?_append_right (by omega),Array.getElem?_append_left (by omega),show os.size+((i - n) * sz+j) - os.size=(i - n) * sz+j by omega]
    rw[he];exact hr
   ·have:v=.top:=List.eq_of_mem_replicate (List.mem_of_getElem? hv)
    subst this
    exact .top _
theorem appB_ok {X:Cx}(hX:X.Ok){o:Oper}{t t2:TypeId}{x y:Operand}{s:St}{Kn:St→Prop}(ho:o.op=.call { callee:=.builtin .append,args:=#[x,y],argTypes:=#[t,t2] })
 (h:appB X.P s o.dst t t2 (ev X s x) (ev X s y) Kn):y5 X o s Kn:=by
 refine y5.of_run2 (by simp[ho]) (fun M B a w hst hho htm=>?_)
 have hev:∀ y,R (mkK w M B s.hp s.ck) (ev X s y) (a.eval y):=fun y=>zcw hX (ds:=a.defers) hst htm y
 have hx:=hev x
 have hy:=hev y
 have hexec:∀ {cv:Value} {w':World},(Builtin.append_ #[t,t2] o.type #[a.eval x,a.eval y]).run X.P w=.ok cv w'→(execOp a.eval o).run X.P w=.ok (.value cv) w':=by
  intro cv w' hc
  simp[execOp,ho,resolve,invoke,builtin,hc]
 unfold appB at h
 split at h
 ·rename_i e d2 p1 m src osz l off n d hu hu2 hsrc hxe hd
  split at h
  ·rename_i c sz get ho2 hfree
   obtain⟨⟨hd2,hg,hzl,hb0⟩,⟨hp1,hoc,hszz,hosz,hbytes,hmax,hone⟩,hin,hout⟩:=h
   subst hszz
   rw[hxe] at hx
   have hd2':d2=.string∨∃ e2,d2=.slice e2:=by cases d2 <;> simp[zc2] at hd2 <;> first | exact .inl rfl | exact .inr ⟨_,rfl⟩
   obtain⟨b,hb⟩:=Option.isSome_iff_exists.1 hg
   have hsz:∀ w':World,(sizeOf e).run X.P w'=.ok (tsz X.P e) w':=zD hb
   obtain⟨i,cz,hi,hby,hcz,hczs⟩:=zcD (k:=mkK w M B s.hp s.ck) hg hzl
   obtain⟨hlen,ys,hys,hyss,hsl,hyr⟩:=zaG (P:=X.P) hho hy hsrc hp1 hosz (Nat.le_refl m)
   have hsx:zgf (mkK w M B s.hp s.ck).hp (.bsl l off n)=some (off+n≤c,n,fun i=>get (off+i),some (tsz X.P e)):=by
    show (match s.hp l with | some (.buf c sz get)=>_ | _=>_)=_
    rw[ho2]
   obtain⟨_,os,hos,hoss,hosl,hosr⟩:=zaG (P:=X.P) hho hx hsx hoc (.inr rfl) (Nat.le_refl n)
   generalize hq:a.eval x=cx at hx
   rw[hq] at hos
   cases hx with
   | bsl _ _ _ _ h1c hnm hh =>
     obtain⟨bb,hB,q1,q2⟩:=hh _ _ _ ho2
     by_cases hroom:off+n+m≤c
     ·obtain⟨r1,r2,r3⟩:=zfX (P:=X.P) hho ho2 (b:=bb) hB (p:=off+n) (m:=m) (src:=src) (ys:=ys) (by omega) hyss hsl hone hyr
      refine⟨_,_,.slice (some ⟨bb,off * tsz X.P e,none⟩) (n+m) (c - off),_,M,B,hin hroom,hexec ?_,r2,r3,?_⟩
      ·rw[hq,q2]
       refine vF hu hu2 hd2' hsz hlen (hys w rfl) (by omega) (base:=some ⟨bb,off * tsz X.P e,none⟩) ?_
       show (storeCells ((⟨bb,off * tsz X.P e,none⟩:Addr).add (n * tsz X.P e)) ys.toList).run X.P w=.ok () (w.setCells bb ((off+n) * tsz X.P e) ys.toList)
       rw[w5]
       have e1:off * tsz X.P e+n * tsz X.P e=(off+n) * tsz X.P e:=(Nat.add_mul _ _ _).symm
       rw[e1]
       exact r1
      ·refine .bsl _ _ _ _ rfl (r2.nm l hnm) fun c' sz' get' hg'=>?_
       have hg'':updH s.hp l _ l=some (.buf c' sz' get'):=hg'
       rw[zd] at hg''
       cases hg''
       exact⟨bb,hB,by omega,rfl⟩
     ·have hcap:Builtin.nextslicecap (n+m) (c - off) * i.bytes≤281474976710656:=growslice_fits (by omega) (by rw[← hby];exact hbytes)
      obtain⟨c',hc',hrun⟩:=vj (ty:=o.type) hu hu2 hd2' hsz hi hcz (by rw[← hby];exact hb0) (base:=some ⟨bb,off * tsz X.P e,none⟩) (n:=n) (c:=c - off) hlen hys (olds:=os) (by rw[← q2];exact hos) (by omega) hcap
      obtain⟨d1,d2⟩:=zay hho
      have hown:∀ b,(mkK w M B s.hp s.ck).owned b→(mkK w M B s.hp s.ck).M b:=fun b hb=>(hho.own b hb).1
      obtain⟨q1,q2',q3⟩:=zfY d2 (l:=(s.ck,d)) hfree rfl (n:=n) (m:=m) (sz:=tsz X.P e) (c:=c') (old:=fun i=>get (off+i)) (src:=src) (os:=os) (ys:=ys) (zs:=Builtin.zeroCells cz.cells (c' - (n+m))) e hoss hyss
       (by rw[wY,hczs]) hc' hosl (fun i j v hi hv=>⟨(hosr i j v hi hv).1,(hosr i j v hi hv).2.step d1 hown⟩) hsl (fun i j v hi hv=>⟨(hyr i j v hi hv).1,(hyr i j v hi hv).2.step d1 hown⟩)
      refine⟨_,_,_,_,_,_,hout (by omega) c' hc',hexec ?_,d1.trans q1,q2',q3⟩
      rw[hq,q2]
      exact hrun
  ·exact h.elim
 ·exact h.elim
theorem zaZ {P:Program}{w:World}{t t2 ty e:TypeId}{ik ik2:IntKind}{sz:Nat}{i:TypeInfo}(ht:P.underlying t=some (.slice e))(ht2:P.underlying t2=some (.int ik))(hsz:∀ w:World,(sizeOf e).run P w=.ok sz w)
 (hi:P.info? e=some i) {cz:Value} (hz:∀ w:World,(zeroValue e).run P w=.ok cz w) (hczs:cz.cells.size=sz) (hb0:i.bytes≠0) {base:Option Addr} {n c m:Nat} {olds:Array Value}
 (hold:∀ w':World,w'.heap=w.heap→(Builtin.firstCells sz n (.slice base n c)).run P w'=.ok olds w')
 (hroom:c < n+m) (hbytes:(n+m) * i.bytes≤140737488355328) (hmax:n+m≤140737488355328) (hcap:Builtin.nextslicecap (n+m) c * i.bytes≤281474976710656) :
 ∃ c',n+m≤c'∧(Builtin.append_ #[t,t2] ty #[.slice base n c,.int ik2 m]).run P w =
  .ok (.slice (some ⟨w.heap.size,0,none⟩) (n+m) c') (w.drew.alloc (.cells (olds++Builtin.zeroCells cz.cells m++Builtin.zeroCells cz.cells (c' - (n+m))) e)):=by
 refine⟨Question.cut (.appendCap (n+m) c e) (w.tape w.drawn (.appendCap (n+m) c e)),by simp[Question.cut],?_⟩
 have hnot:¬ n+m≤c:=by omega
 have hbig:¬ 281474976710656 < Builtin.nextslicecap (n+m) c * i.bytes:=by omega
 have h2:=hold w.drew rfl
 have hf:(Question.appendCap (n+m) c e).forced=false:=rfl
 have hw:IntKind.wrap .i64 (m:Int)=m:=by
  have:(m:Int)≤140737488355328:=by omega
  simp only[IntKind.wrap,show IntKind.bits .i64=64 from rfl,show IntKind.signed .i64=true from rfl,Bool.true_and,decide_eq_true_eq]
  split <;> omega
 have hmb:m * i.bytes≤140737488355328:=Nat.le_trans (Nat.mul_le_mul_right _ (by omega)) hbytes
 have hmb':¬ 281474976710656 < (m:Int) * (i.bytes:Int):=by
  have:((m * i.bytes:Nat):Int)≤140737488355328:=by omega
  rw[Int.natCast_mul] at this;omega
 have hneg:¬ (m:Int) < 0:=by omega
 have hmx:¬ IntKind.max .i64 < ((n+m:Nat):Int):=by
  have:IntKind.max .i64=9223372036854775807:=by decide
  omega
 by_cases h0:m * sz=0
 ·have:Builtin.zeroCells cz.cells m=#[]:=by
   apply Array.eq_empty_of_size_eq_zero
   rw[wY,hczs,h0]
  simp[Builtin.append_,run_underlying ht,run_underlying ht2,hsz,hnot,typeInfo,hi,hb0,hbig,hf,h2,hz,newRow,asInt,asIntOf,hw,hneg,hmb',hmx,h0,this]
  intro hh;omega
 ·simp[Builtin.append_,run_underlying ht,run_underlying ht2,hsz,hnot,typeInfo,hi,hb0,hbig,hf,h2,hz,newRow,asInt,asIntOf,hw,hneg,hmb',hmx,h0]
  intro hh;omega
def zbn (P:Program)(s:St)(dst:Option Tmp)(t t2:TypeId)(x y:V)(Kn:St→Prop):Prop :=
 match P.underlying t,P.underlying t2,y,x,dst with
 | some (.slice e),some (.int _),.int _ q,.bsl l off n,some d=>match s.hp l,s.hp (s.ck,d) with
   | some (.buf c sz get),none =>
     ((tagg P e).isSome=true∧((tzero P e).bind cellsV).map List.length=some (tsz P e)∧tby P e≠0) ∧
     (0≤q∧off+n≤c∧sz=tsz P e∧(n+q.toNat) * tby P e≤140737488355328∧n+q.toNat≤140737488355328∧c < off+n+q.toNat) ∧
     (∀ c',n+q.toNat≤c'→Kn ⟨s.ck,putTm s.tm dst (.bsl (s.ck,d) 0 (n+q.toNat)),updH s.hp (s.ck,d) (.buf c' sz (fun i=>if i < n then get (off+i) else if i < n+q.toNat then List.replicate sz .top else List.replicate sz .top))⟩)
   | _,_=>False
 | _,_,_,_,_=>False
theorem zhb {X:Cx}(hX:X.Ok){o:Oper}{t t2:TypeId}{x y:Operand}{s:St}{Kn:St→Prop}(ho:o.op=.call { callee:=.builtin .append,args:=#[x,y],argTypes:=#[t,t2] })
 (h:zbn X.P s o.dst t t2 (ev X s x) (ev X s y) Kn):y5 X o s Kn:=by
 refine y5.of_run2 (by simp[ho]) (fun M B a w hst hho htm=>?_)
 have hev:∀ y,R (mkK w M B s.hp s.ck) (ev X s y) (a.eval y):=fun y=>zcw hX (ds:=a.defers) hst htm y
 have hx:=hev x
 have hy:=hev y
 have hexec:∀ {cv:Value} {w':World},(Builtin.append_ #[t,t2] o.type #[a.eval x,a.eval y]).run X.P w=.ok cv w'→(execOp a.eval o).run X.P w=.ok (.value cv) w':=by
  intro cv w' hc
  simp[execOp,ho,resolve,invoke,builtin,hc]
 unfold zbn at h
 split at h
 ·rename_i e ik ik2 q l off n d hu hu2 hye hxe hd
  split at h
  ·rename_i c sz get ho2 hfree
   obtain⟨⟨hg,hzl,hb0⟩,⟨hq0,hoc,hszz,hbytes,hmax,hno⟩,hout⟩:=h
   subst hszz
   obtain⟨m,rfl⟩:=Int.eq_ofNat_of_zero_le hq0
   simp only[Int.toNat_natCast] at hbytes hmax hno hout
   rw[hxe] at hx
   rw[hye] at hy
   obtain⟨b,hb⟩:=Option.isSome_iff_exists.1 hg
   have hsz:∀ w':World,(sizeOf e).run X.P w'=.ok (tsz X.P e) w':=zD hb
   obtain⟨i,cz,hi,hby,hcz,hczs⟩:=zcD (k:=mkK w M B s.hp s.ck) hg hzl
   have hsx:zgf (mkK w M B s.hp s.ck).hp (.bsl l off n)=some (off+n≤c,n,fun i=>get (off+i),some (tsz X.P e)):=by
    show (match s.hp l with | some (.buf c sz get)=>_ | _=>_)=_
    rw[ho2]
   obtain⟨_,os,hos,hoss,hosl,hosr⟩:=zaG (P:=X.P) hho hx hsx hoc (.inr rfl) (Nat.le_refl n)
   generalize hq:a.eval x=cx at hx
   rw[hq] at hos
   cases hx with
   | bsl _ _ _ _ h1c hnm hh =>
     obtain⟨bb,hB,q1,q2⟩:=hh _ _ _ ho2
     have hcap:Builtin.nextslicecap (n+m) (c - off) * i.bytes≤281474976710656:=growslice_fits (by omega) (by rw[← hby];exact hbytes)
     obtain⟨c',hc',hrun⟩:=zaZ (ty:=o.type) (ik2:=ik2) (w:=w) hu hu2 hsz hi hcz hczs (by rw[← hby];exact hb0) (base:=some ⟨bb,off * tsz X.P e,none⟩) (n:=n) (c:=c - off) (m:=m) (olds:=os) (by rw[← q2];exact hos) (by omega) (by rw[← hby];exact hbytes) hmax hcap
     obtain⟨d1,d2⟩:=zay hho
     have hown:∀ b,(mkK w M B s.hp s.ck).owned b→(mkK w M B s.hp s.ck).M b:=fun b hb=>(hho.own b hb).1
     obtain⟨q1,q2',q3⟩:=zfY d2 (l:=(s.ck,d)) hfree rfl (n:=n) (m:=m) (sz:=tsz X.P e) (c:=c') (old:=fun i=>get (off+i)) (src:=fun _=>List.replicate (tsz X.P e) .top) (os:=os) (ys:=Builtin.zeroCells cz.cells m) (zs:=Builtin.zeroCells cz.cells (c' - (n+m))) e hoss
      (by rw[wY,hczs]) (by rw[wY,hczs]) hc' hosl (fun i j v hi hv=>⟨(hosr i j v hi hv).1,(hosr i j v hi hv).2.step d1 hown⟩) (fun i hi=>by simp)
      (fun i j v hi hv=>⟨by have:=(List.getElem?_eq_some_iff.1 hv).1;simpa using this,by
       have:v=.top:=List.eq_of_mem_replicate (List.mem_of_getElem? hv)
       subst this;exact .top _⟩)
     refine⟨_,_,_,_,_,_,hout c' hc',hexec ?_,d1.trans q1,q2',q3⟩
     rw[hq,q2,hy.int_inv]
     exact hrun
  ·exact h.elim
 ·exact h.elim
def capTV (P:Program)(hp:Heap)(t:TypeId)(x:V):Option (Prop×V) :=
 match P.underlying t,x with
 | some (.slice _),.bsl l off _=>match hp l with
   | some (.buf c _ _)=>some (True,.int .i64 ((c - off:Nat):Int))
   | _=>none
 | _,_=>none
theorem run_cap {P:Program}{k:K}{ρ:Operand→Value}{o:Oper}{t:TypeId}{x:Operand}(ho:o.op=.call { callee:=.builtin .cap,args:=#[x],argTypes:=#[t] }){u:V}
 (hx:R k u (ρ x)) {pre:Prop} {r:V} (h:capTV P k.hp t u=some (pre,r)) (hp:pre):∃ cv,(execOp ρ o).run P k.w=.ok (.value cv) k.w∧R k r cv:=by
 have hexec:∀ {cv:Value},(Builtin.cap_ #[t] o.type #[ρ x]).run P k.w=.ok cv k.w→(execOp ρ o).run P k.w=.ok (.value cv) k.w:=by
  intro cv hc
  simp[execOp,ho,resolve,invoke,builtin,hc]
 unfold capTV at h
 split at h
 ·rename_i e l off n ht
  split at h
  ·rename_i c sz get ho2
   cases h
   generalize hq:ρ x=cx at hx hexec
   cases hx with
   | bsl _ _ _ _ h1c hnm hh =>
     obtain⟨bb,hB,q1,q2⟩:=hh _ _ _ ho2
     refine⟨_,hexec ?_,.int _ _⟩
     simp[Builtin.cap_,run_underlying ht,q2,goInt]
  ·cases h
 ·cases h
def appD (P:Program)(s:St)(dst:Option Tmp)(t t2:TypeId)(x y:V):Option (Prop×Prop×V×Heap×Prop×Nat×V×(Nat→Heap)) :=
 match P.underlying t,P.underlying t2,zgf s.hp y,x,dst with
 | some (.slice e),some d2,some (p1,m,src,osz),.bsl l off n,some d=>match s.hp l,s.hp (s.ck,d) with
   | some (.buf c sz get),none =>
     if zc2 d2=true∧(tagg P e).isSome=true∧((tzero P e).bind cellsV).map List.length=some (tsz P e)∧tby P e≠0 then
      some (p1∧off+n≤c∧sz=tsz P e∧(m=0∨osz=some (tsz P e))∧(n+m) * tby P e≤140737488355328∧n+m≤140737488355328∧∀ i,i < m→∀ v∈src i,(Pu v∨jg v=true)∧jM v=true,
       off+n+m≤c,.bsl l off (n+m),updH s.hp l (.buf c sz (qW get (off+n) m src)),
       c < off+n+m,n+m,.bsl (s.ck,d) 0 (n+m),fun c'=>updH s.hp (s.ck,d) (.buf c' sz (fun i=>if i < n then get (off+i) else if i < n+m then src (i - n) else List.replicate sz .top)))
     else none
   | _,_=>none
 | _,_,_,_,_=>none
def znt (P:Program)(s:St)(dst:Option Tmp)(t t2:TypeId)(x y:V):Option (Prop×Prop×V×Heap×Prop×Nat×V×(Nat→Heap)) :=
 match P.underlying t,P.underlying t2,y,x,dst with
 | some (.slice e),some (.int _),.int _ q,.bsl l off n,some d=>match s.hp l,s.hp (s.ck,d) with
   | some (.buf c sz get),none =>
     if (tagg P e).isSome=true∧((tzero P e).bind cellsV).map List.length=some (tsz P e)∧tby P e≠0 then
      some (0≤q∧off+n≤c∧sz=tsz P e∧(n+q.toNat) * tby P e≤140737488355328∧n+q.toNat≤140737488355328∧c < off+n+q.toNat,
       False,.top,s.hp,
       True,n+q.toNat,.bsl (s.ck,d) 0 (n+q.toNat),fun c'=>updH s.hp (s.ck,d) (.buf c' sz (fun i=>if i < n then get (off+i) else List.replicate sz .top)))
     else none
   | _,_=>none
 | _,_,_,_,_=>none
def finD (s:St)(dst:Option Tmp)(r:Option (Prop×Prop×V×Heap×Prop×Nat×V×(Nat→Heap)))(Kn:St→Prop):Prop :=
 match r with
 | some (p,p1,v1,h1,p2,lo,v2,h2)=>p∧(p1→Kn ⟨s.ck,putTm s.tm dst v1,h1⟩)∧(p2→∀ c',lo≤c'→Kn ⟨s.ck,putTm s.tm dst v2,h2 c'⟩)
 | none=>False
theorem appB_of {P:Program}{s:St}{dst:Option Tmp}{t t2:TypeId}{x y:V}{Kn:St→Prop}(h:finD s dst (appD P s dst t t2 x y) Kn):appB P s dst t t2 x y Kn:=by
 unfold appD at h
 unfold appB
 split at h
 ·split at h
  ·split at h
   ·rename_i hc
    exact⟨hc,h.1,h.2.1,h.2.2⟩
   ·exact h.elim
  ·exact h.elim
 ·exact h.elim
theorem zhc {P:Program}{s:St}{dst:Option Tmp}{t t2:TypeId}{x y:V}{Kn:St→Prop}(h:finD s dst (znt P s dst t t2 x y) Kn):zbn P s dst t t2 x y Kn:=by
 unfold znt at h
 unfold zbn
 split at h
 ·split at h
  ·split at h
   ·rename_i hc
    refine⟨hc,h.1,fun c' hc'=>?_⟩
    have:=h.2.2 trivial c' hc'
    simpa only[ite_self] using this
   ·exact h.elim
  ·exact h.elim
 ·exact h.elim
def reV:V→Option V
 | .cplx k a _=>some (.flt k a)
 | _=>none
def imV:V→Option V
 | .cplx k _ b=>some (.flt k b)
 | _=>none
def cpxV:V→V→Option (Prop×V)
 | .flt k a,.flt k' b=>some (k=k',.cplx k a b)
 | _,_=>none
theorem run_re {P:Program}{k:K}{ρ:Operand→Value}{o:Oper}{t:TypeId}{x:Operand}(ho:o.op=.call { callee:=.builtin .real,args:=#[x],argTypes:=#[t] }){u r:V}(hx:R k u (ρ x))(h:reV u=some r) :
 ∃ cv,(execOp ρ o).run P k.w=.ok (.value cv) k.w∧R k r cv:=by
 unfold reV at h
 split at h
 ·rename_i fk a b
  cases h
  generalize hq:ρ x=cx at hx
  cases hx
  have e:∀ ts ty,Builtin.real_ ts ty #[Value.complex fk a b]=pure (Value.float fk a):=fun _ _=>rfl
  exact⟨.float fk a,by simp[execOp,ho,resolve,invoke,builtin,e,hq],.flt _ _⟩
 ·cases h
theorem run_im {P:Program}{k:K}{ρ:Operand→Value}{o:Oper}{t:TypeId}{x:Operand}(ho:o.op=.call { callee:=.builtin .imag,args:=#[x],argTypes:=#[t] }){u r:V}(hx:R k u (ρ x))(h:imV u=some r) :
 ∃ cv,(execOp ρ o).run P k.w=.ok (.value cv) k.w∧R k r cv:=by
 unfold imV at h
 split at h
 ·rename_i fk a b
  cases h
  generalize hq:ρ x=cx at hx
  cases hx
  have e:∀ ts ty,Builtin.imag_ ts ty #[Value.complex fk a b]=pure (Value.float fk b):=fun _ _=>rfl
  exact⟨.float fk b,by simp[execOp,ho,resolve,invoke,builtin,e,hq],.flt _ _⟩
 ·cases h
theorem run_cpx {P:Program}{k:K}{ρ:Operand→Value}{o:Oper}{t t2:TypeId}{x y:Operand}(ho:o.op=.call { callee:=.builtin .complex,args:=#[x,y],argTypes:=#[t,t2] }){u v r:V}(hx:R k u (ρ x))(hy:R k v (ρ y)){pre:Prop}(h:cpxV u v=some (pre,r))(hp:pre) :
 ∃ cv,(execOp ρ o).run P k.w=.ok (.value cv) k.w∧R k r cv:=by
 unfold cpxV at h
 split at h
 ·rename_i fk a fk' b
  cases h
  have hp:fk=fk':=hp
  subst hp
  generalize hq:ρ x=cx at hx
  generalize hq2:ρ y=cy at hy
  cases hx
  cases hy
  have e:∀ ts ty,Builtin.complex_ ts ty #[Value.float fk a,Value.float fk b]=pure (Value.complex fk a b):=fun _ _=>if_pos rfl
  exact⟨.complex fk a b,by simp[execOp,ho,resolve,invoke,builtin,e,hq,hq2],.cplx _ _ _⟩
 ·cases h
end Go.Fly
end
