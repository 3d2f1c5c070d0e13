/- Part of a proof. No conditions. -/
import Derived.Test.YtkfbgillhhhdgaaGreatDoorAL
import Derived.Test.YtkfbgillhhhdgaaGreatDoorAN
set_option linter.unusedSimpArgs false
set_option linter.unusedVariables false
section
namespace Go.Fly
open Go
theorem wu.killR {k0:K}{s:St}{l l2:Loc}{n sz n2 sz2:Nat}{get get2:Nat→List V}{i0 j0:Nat}(hne:l2≠l)(hl:s.hp l=some (.arr n sz get))(hc:s.hp l2=some (.arr n2 sz2 get2))(hi:i0 < n2)(hj:(get2 i0)[j0]?=some (.msl l 0 n))(hpr:∀ (i j:Nat) (v:V),i < n→(get i)[j]?=some v→Pu v) :
 wu k0 s ⟨s.ck,s.tm,updH (updH s.hp l .dead) l2 (.arr n2 sz2 fun i=>if i=i0 then (get2 i).set j0 (.sl n sz get) else get2 i)⟩:=by
 intro a w ⟨M,B,hst,hk,ht,hm⟩
 obtain⟨M',B',q1,q2,q3⟩:=zc1 hk hl hpr
 have ho:∀ b,(mkK w M B s.hp s.ck).owned b→(mkK w M B s.hp s.ck).M b:=fun b hb=>(hk.own b hb).1
 have ho1:∀ b,(mkK w M' B' (updH s.hp l .dead) s.ck).owned b→(mkK w M' B' (updH s.hp l .dead) s.ck).M b:=fun b hb=>(q2.own b hb).1
 have hc1:updH s.hp l .dead l2=some (.arr n2 sz2 get2):=by rw[zc hne];exact hc
 obtain⟨g1,g2,g3⟩:=hk.obj l2 _ hc
 have g3':match B l2 with
  | none=>n2=0
  | some (b,c)=>n2≤c∧∃ xs ty fz,w.heap[b]?=some (.cells xs ty fz)∧(∀ o:Nat,¬ (fz.1≤o∧o < fz.2))∧xs.size=c * sz2 ∧
   ∀ (i j:Nat) (v:V),i < n2→(get2 i)[j]?=some v→R (mkK w M B s.hp s.ck) v (xs.getD (i * sz2+j) undef):=g3
 generalize hx:B l2=x at g3'
 cases x with
 | none=>exact absurd (show n2=0 from g3') (by omega)
 | some bc =>
   obtain⟨b,c⟩:=bc
   obtain⟨g4,xs,ty,fz,g5,g6,g7,g8⟩:=g3'
   have hB:B' l2=some (b,c):=by
    have q:=q1.names l2 (hk.nm l2 _ hc) (.arr n2 sz2 get2) hc1
    have qq:∃ n' get',s.hp l2=some (.arr n' sz2 get')∧n'≤n2∧(n'=n2→B' l2=B l2):=q
    obtain⟨n',get',e1,e2,e3⟩:=qq
    have:n'=n2:=by
     rw[hc] at e1;cases e1;rfl
    exact(e3 this).trans hx
   obtain⟨p1,p2⟩:=vi q2 (l:=l2) hc1 (o':=.arr n2 sz2 fun i=>if i=i0 then (get2 i).set j0 (.sl n sz get) else get2 i) hB ⟨n2,get2,rfl,Nat.le_refl _,fun _=>rfl⟩ (w':=w) ⟨rfl,rfl,rfl,rfl⟩ (fun _ _=>rfl)
    (fun k' hw hB' st=>⟨fun i hi=>by
     show (if i=i0 then (get2 i).set j0 (.sl n sz get) else get2 i).length=sz2
     split
     ·rw[List.length_set];exact g1 i hi
     ·exact g1 i hi,trivial,by
     show match k'.B l2 with
      | none=>n2=0
      | some (b,c)=>n2≤c∧∃ xs ty fz,k'.w.heap[b]?=some (.cells xs ty fz)∧(∀ o:Nat,¬ (fz.1≤o∧o < fz.2))∧xs.size=c * sz2 ∧
        ∀ (i j:Nat) (v:V),i < n2→(if i=i0 then (get2 i).set j0 (.sl n sz get) else get2 i)[j]?=some v→R k' v (xs.getD (i * sz2+j) undef)
     rw[hB']
     refine⟨g4,xs,ty,fz,by rw[hw];exact g5,g6,g7,fun i j v hi hv=>?_⟩
     by_cases e:i=i0
     ·subst e
      rw[if_pos rfl,List.getElem?_set] at hv
      by_cases e2:j0=j
      ·subst e2
       have hlt:=(List.getElem?_eq_some_iff.1 hj).1
       simp only[if_true,hlt,Option.some.injEq] at hv
       subst hv
       exact(q3 _ (g8 i j0 _ hi hj)).step st ho1
      ·simp only[e2,if_false] at hv
       exact((g8 i j v hi hv).step q1 ho).step st ho1
     ·rw[if_neg e] at hv
      exact((g8 i j v hi hv).step q1 ho).step st ho1⟩)
   exact⟨M',B',hst.trans (q1.trans p1),p2,(ht.step q1 ho).step p1 ho1,(hm.step q1).step p1⟩
end Go.Fly
end
section
namespace Go.Fly.Off
open Go
def kY (k:FuncId):Contract:=fun rl args=>⟨∃ r l,args=[zf 2 zZ l,.fn (.func k) [.cptr (zt r)] []]∧l.length≤1000000∧∀ h∈l,ChainOk r h.share,
 .msl rl 0 (zi jj (arg args 0)).length,
 some (.arr (zi jj (arg args 0)).length 1 fun i=>[.int .i64 ((match arg args 1 with | .fn _ [.cptr c] _=>wC c | _=>{}).level levelE (el (zi jj (arg args 0)) i))])⟩
attribute [go_sem] kY
theorem zmv {H:Heap}{y:Lay}{r:Reg}(n:Nat)(hat:RegAt H y r):frz (n+3) H (.ptr y.box y.off)=.cptr (zt r):=by
 have hn0:H y.n0=some (.arr r.types.length 3 fun i=>wg (el r.types i)):=hat.types
 have hn1:H y.n1=some (.arr r.houses.length 2 fun i=>zZ (el r.houses i)):=hat.houses
 have hn2:H y.n2=some (.arr r.flights.length 5 fun i=>zM (el r.flights i)):=hat.flights
 have hn3:H y.n3=some (.arr r.maps.length 3 fun i=>wq (el r.maps i)):=hat.maps
 have hn4:H y.n4=some (.arr r.offers.length 4 fun i=>zX (el r.offers i)):=hat.offers
 have hn5:H y.n5=some (.arr r.complaints.length 6 fun i=>zP (el r.complaints i)):=hat.complaints
 rw[jh,hat.box]
 show V.cptr ((List.drop y.pre.length (y.pre++regCells y r)).map (frz (n+2) H))=_
 rw[List.drop_left]
 simp only[regCells,go_sem,↓zj,hn0,hn1,hn2,hn3,hn4,hn5,Nat.zero_add]
 rfl
theorem z7 {S S':Heap}(h:S=S'):zy S S':=h ▸ zy.refl _
structure RegOk (r:Reg):Prop where
 rl:RL r
 fund:0≤r.fund∧r.fund≤1000000000000
 offers:∀ o∈r.offers,0≤o.amount∧o.amount≤1000000000000
 chain:∀ h∈r.houses,ChainOk r h.share
structure AppPre (r:Reg) (e:Ev) (k:Kd):Prop where
 reg:RegOk r
 names:e.names.length=k.letters.length
 vals:e.vals.length=k.values
 known:knownE r e k=0
 bd:∀ v∈e.vals,0≤v∧v≤999999999
theorem AppPre.val {r:Reg}{e:Ev}{k:Kd}(h:AppPre r e k){i:Nat}(hi:i < k.values):0≤el e.vals i∧el e.vals i≤999999999 :=
 h.bd _ (wd (by rw[h.vals];exact hi))
theorem AppPre.pay {r:Reg}{e:Ev}(h:AppPre r e .pay):0≤(el r.offers (zO (r.namesOf 111) (el e.names 0))).amount∧(el r.offers (zO (r.namesOf 111) (el e.names 0))).amount≤1000000000000 :=
 h.reg.offers _ (wd (zU (f:=Of.name) (we (i:=0) h.known (by decide) (by decide))))
theorem vz {H:Heap}{y:Lay}{r:Reg}{d:Int}{cs:List V}(hc:cs=y.pre++regCells y { r with day:=d }):updH (zx H y r) y.box (.cells cs)=zx H y { r with day:=d }:=by
 subst hc
 funext l
 unfold updH zx
 by_cases e0:l=y.box
 ·simp only[if_pos e0]
 ·simp only[if_neg e0]
  rfl
theorem wJ {lv:Int→Int}{r:Reg}{e:Ev}{k:Kd}(hk:kindOf e.kind=some k):w9 lv r e={ zu lv r e k with day:=el e.vals 0 }:=by
 unfold w9
 rw[hk]
 rfl
theorem ya {α:Type}{l:List α}{p:Nat}{h:α→α}{x:α}(hx:x∈l.modify p h):∃ y∈l,x=y∨x=h y:=by
 obtain⟨i,hi,rfl⟩:=List.mem_iff_getElem.1 hx
 rw[List.length_modify] at hi
 rw[List.getElem_modify]
 refine⟨l[i],List.getElem_mem hi,?_⟩
 split
 ·exact .inr rfl
 ·exact .inl rfl
theorem zbV {α β:Type}{f:α→β}{l:List α}{p:Nat}{h:α→α}(hf:∀ x,f (h x)=f x):(l.modify p h).map f=l.map f:=by
 apply List.ext_getElem
 ·simp
 ·intro i h1 h2
  simp only[List.getElem_map,List.getElem_modify]
  split
  ·exact hf _
  ·rfl
structure Good (r:Reg):Prop where
 day:0≤r.day∧r.day≤999999999
 nt:r.types.length≤8
 nh:r.houses.length≤32
 nf:r.flights.length≤64
 nm:r.maps.length≤16
 no:r.offers.length≤32
 nc:r.complaints.length≤64
 tys:∀ t∈r.types,(0≤t.energy∧t.energy≤1000000000)∧0≤t.factor∧t.factor≤2000
 hos:∀ h∈r.houses,0≤h.share∧h.share≤1000
 fls:∀ f∈r.flights,f.type∈r.namesOf 116
 mps:∀ m∈r.maps,m.levels.length≤32
 ofs:∀ o∈r.offers,0≤o.amount∧o.amount≤100000000
 fund:0≤r.fund∧r.fund≤1000000000000
theorem Good.rl {r:Reg}(h:Good r):RL r:=⟨by have:=h.nt;omega,by have:=h.nh;omega,by have:=h.nf;omega,by have:=h.nm;omega,by have:=h.no;omega,by have:=h.nc;omega⟩
theorem Good.ok {r:Reg}(h:Good r):RegOk r:=⟨h.rl,h.fund,fun o ho=>⟨(h.ofs o ho).1,by have:=(h.ofs o ho).2;omega⟩,fun x hx=>⟨h.rl,h.tys,h.fls,h.nf,h.hos x hx⟩⟩
theorem Good.last {r:Reg}(h:Good r):LastOk r:=fun m hm=>by
 have:=h.mps m (List.mem_of_getLast? hm)
 omega
theorem Good.init:Good {}:=⟨by decide,by decide,by decide,by decide,by decide,by decide,by decide,by simp,by simp,by simp,by simp,by simp,by decide⟩
structure Acc (r:Reg) (e:Ev) (k:Kd):Prop where
 ev:eventE e=0
 kind:kindOf e.kind=some k
 real:k≠.undo
 day:r.day≤el e.vals 0
 known:knownE r e k=0
 check:checkK r e k=0
theorem Acc.facts {r:Reg}{e:Ev}{k:Kd}(h:Acc r e k):e.names.length=k.letters.length∧e.vals.length=k.values∧∀ v∈e.vals,0≤v∧v≤999999999:=by
 obtain⟨k',h1,h2,h3,h4,-⟩:=jV h.ev
 rw[h.kind] at h1
 cases h1
 exact⟨h2,h3,h4⟩
theorem Acc.pre {r:Reg}{e:Ev}{k:Kd}(h:Acc r e k)(hg:Good r):AppPre r e k:=⟨hg.ok,h.facts.1,h.facts.2.1,h.known,h.facts.2.2⟩
theorem Acc.val {r:Reg}{e:Ev}{k:Kd}(h:Acc r e k){i:Nat}(hi:i < k.values):0≤el e.vals i∧el e.vals i≤999999999 :=
 h.facts.2.2 _ (wd (by rw[h.facts.2.1];exact hi))
theorem Acc.good {lv:Int→Int}{r:Reg}{e:Ev}{k:Kd}(h:Acc r e k)(hg:Good r):Good (w9 lv r e):=by
 rw[wJ h.kind]
 have hd:0≤el e.vals 0∧el e.vals 0≤999999999:=h.val (by have:=h.real;cases k <;> first | decide | exact absurd rfl this)
 have hc:=h.check
 obtain⟨g1,g2,g3,g4,g5,g6,g7,g8,g9,g10,g11,g12,g13⟩:=hg
 cases k
 case type =>
  simp only[checkK,wb,List.mem_cons,List.not_mem_nil,or_false,forall_eq_or_imp,forall_eq,y6,w4 (e:=5) (by decide),decide_eq_false_iff_not] at hc
  have hv:0≤el e.vals 1∧el e.vals 1≤1000000000:=hc.1
  refine⟨hd,?_,g3,g4,g5,g6,g7,?_,g9,?_,g11,g12,g13⟩
  ·show (r.types++[_]).length≤8
   rw[List.length_append];simp only[List.length_cons,List.length_nil];omega
  ·intro t ht
   rcases List.mem_append.1 (show t∈r.types++[_] from ht) with q | q
   ·exact g8 t q
   ·rw[List.mem_singleton.1 q];exact⟨hv,by show (0:Int)≤1000∧(1000:Int)≤2000;decide⟩
  ·intro f hf
   have:=g10 f hf
   show f.type∈(r.types++[_]).map _
   rw[List.map_append]
   exact List.mem_append_left _ this
 case house =>
  simp only[checkK,wb,List.mem_cons,List.not_mem_nil,or_false,forall_eq_or_imp,forall_eq,y6,w4 (e:=5) (by decide),decide_eq_false_iff_not] at hc
  have hv:0≤el e.vals 1∧el e.vals 1≤1000:=hc.1
  refine⟨hd,g2,?_,g4,g5,g6,g7,g8,?_,g10,g11,g12,g13⟩
  ·show (r.houses++[_]).length≤32
   rw[List.length_append];simp only[List.length_cons,List.length_nil];omega
  ·intro t ht
   rcases List.mem_append.1 (show t∈r.houses++[_] from ht) with q | q
   ·exact g9 t q
   ·rw[List.mem_singleton.1 q];exact hv
 case flight =>
  simp only[checkK,wb,List.mem_cons,List.not_mem_nil,or_false,forall_eq_or_imp,forall_eq,y6,w4 (e:=5) (by decide),decide_eq_false_iff_not] at hc
  refine⟨hd,g2,g3,?_,g5,g6,g7,g8,g9,?_,g11,g12,g13⟩
  ·show (r.flights++[_]).length≤64
   rw[List.length_append];simp only[List.length_cons,List.length_nil];omega
  ·intro t ht
   rcases List.mem_append.1 (show t∈r.flights++[_] from ht) with q | q
   ·exact g10 t q
   ·rw[List.mem_singleton.1 q];exact we (i:=1) h.known (by decide) (by decide)
 case match_ =>
  refine⟨hd,g2,g3,?_,g5,g6,g7,g8,g9,?_,g11,g12,g13⟩
  ·show (r.flights.modify _ _).length≤64
   rw[List.length_modify];exact g4
  ·intro t ht
   obtain⟨y,hy,q⟩:=ya (show t∈r.flights.modify _ _ from ht)
   rcases q with rfl | rfl
   ·exact g10 _ hy
   ·exact g10 y hy
 case correct =>
  simp only[checkK,wb,List.mem_cons,List.not_mem_nil,or_false,forall_eq_or_imp,forall_eq,y6] at hc
  have hv:1≤el e.vals 1∧el e.vals 1≤2000:=hc.1
  refine⟨hd,?_,g3,g4,g5,g6,g7,?_,g9,?_,g11,g12,g13⟩
  ·show (r.types.modify _ _).length≤8
   rw[List.length_modify];exact g2
  ·intro t ht
   obtain⟨y,hy,q⟩:=ya (show t∈r.types.modify _ _ from ht)
   rcases q with rfl | rfl
   ·exact g8 _ hy
   ·exact⟨(g8 y hy).1,by show 0≤el e.vals 1;omega,hv.2⟩
  ·intro f hf
   show f.type∈(r.types.modify _ _).map _
   rw[zbV (f:=(·.name)) (h:=fun t:Ty=>{ t with factor:=e.vl 1 }) (fun x=>rfl)]
   exact g10 f hf
 case publish =>
  simp only[checkK,wb,List.mem_cons,List.not_mem_nil,or_false,forall_eq_or_imp,forall_eq,w4 (e:=5) (by decide),w4 (e:=12) (by decide),decide_eq_false_iff_not] at hc
  refine⟨hd,g2,g3,g4,?_,g6,g7,g8,g9,g10,?_,g12,g13⟩
  ·show (r.maps++[_]).length≤16
   rw[List.length_append];simp only[List.length_cons,List.length_nil];omega
  ·intro t ht
   rcases List.mem_append.1 (show t∈r.maps++[_] from ht) with q | q
   ·exact g11 t q
   ·rw[List.mem_singleton.1 q]
    show (r.houses.map _).length≤32
    rw[List.length_map];exact g3
 case offer =>
  simp only[checkK,wb,List.mem_cons,List.not_mem_nil,or_false,forall_eq_or_imp,forall_eq,y6,w4 (e:=5) (by decide),decide_eq_false_iff_not] at hc
  have hv:1≤el e.vals 1∧el e.vals 1≤100000000:=hc.1
  have hn:=hc.2.2.2.2
  refine⟨hd,g2,g3,g4,g5,?_,g7,g8,g9,g10,g11,?_,g13⟩
  ·show (r.offers++[_]).length≤32
   rw[List.length_append];simp only[List.length_cons,List.length_nil];omega
  ·intro t ht
   rcases List.mem_append.1 (show t∈r.offers++[_] from ht) with q | q
   ·exact g12 t q
   ·rw[List.mem_singleton.1 q];exact⟨by show 0≤el e.vals 1;omega,hv.2⟩
 case fund =>
  simp only[checkK,wb,List.mem_cons,List.not_mem_nil,or_false,forall_eq_or_imp,forall_eq,y6,w4 (e:=4) (by decide),decide_eq_false_iff_not] at hc
  have hv:1≤el e.vals 1∧el e.vals 1≤100000000:=hc.1
  have hn:¬ 1000000000000 - el e.vals 1 < r.fund:=hc.2
  refine⟨hd,g2,g3,g4,g5,g6,g7,g8,g9,g10,g11,g12,?_⟩
  show 0≤r.fund+el e.vals 1∧r.fund+el e.vals 1≤1000000000000
  omega
 case pay =>
  simp only[checkK,wb,List.mem_cons,List.not_mem_nil,or_false,forall_eq_or_imp,forall_eq,w4 (e:=23) (by decide),w4 (e:=16) (by decide),decide_eq_false_iff_not] at hc
  have hn:¬ r.fund < (r.offer (el e.names 0)).amount:=hc.2
  have ho:0≤(r.offer (el e.names 0)).amount:=(g12 _ (wd (zU (f:=Of.name) (we (i:=0) h.known (by decide) (by decide))))).1
  refine⟨hd,g2,g3,g4,g5,?_,g7,g8,g9,g10,g11,?_,?_⟩
  ·show (r.offers.modify _ _).length≤32
   rw[List.length_modify];exact g6
  ·intro t ht
   obtain⟨y,hy,q⟩:=ya (show t∈r.offers.modify _ _ from ht)
   rcases q with rfl | rfl
   ·exact g12 _ hy
   ·exact g12 y hy
  ·show 0≤r.fund - (r.offer (el e.names 0)).amount∧r.fund - (r.offer (el e.names 0)).amount≤1000000000000
   omega
 case complain =>
  simp only[checkK,wb,List.mem_cons,List.not_mem_nil,or_false,forall_eq_or_imp,forall_eq,y6,w4 (e:=5) (by decide),decide_eq_false_iff_not] at hc
  refine⟨hd,g2,g3,g4,g5,g6,?_,g8,g9,g10,g11,g12,g13⟩
  show (r.complaints++[_]).length≤64
  rw[List.length_append];simp only[List.length_cons,List.length_nil];omega
 case answer =>
  refine⟨hd,g2,g3,g4,g5,g6,?_,g8,g9,g10,g11,g12,g13⟩
  show (r.complaints.modify _ _).length≤64
  rw[List.length_modify];exact g7
 case dismiss =>
  refine⟨hd,g2,g3,g4,g5,g6,?_,g8,g9,g10,g11,g12,g13⟩
  show (r.complaints.modify _ _).length≤64
  rw[List.length_modify];exact g7
 case undo=>exact absurd rfl h.real
def Cnt (lv:Int→Int)(l:List Ev):Prop:=∀ i,i < l.length→∃ k,Acc (made lv (l.take i)) (el l i) k
theorem zlX (lv:Int→Int)(l:List Ev)(e:Ev):made lv (l++[e])=w9 lv (made lv l) e:=by
 unfold made
 rw[List.foldl_append]
 rfl
theorem vt (lv:Int→Int)(l:List Ev){i:Nat}(hi:i < l.length):made lv (l.take (i+1))=w9 lv (made lv (l.take i)) (el l i):=by
 rw[jm hi,zlX]
theorem Cnt.good {lv:Int→Int}{l:List Ev}(h:Cnt lv l):∀ {i:Nat},i≤l.length→Good (made lv (l.take i))
 | 0,_=>by rw[List.take_zero];exact Good.init
 | i+1,hi=>by
   rw[vt lv l (by omega)]
   obtain⟨k,hk⟩:=h i (by omega)
   exact hk.good (h.good (by omega))
theorem Cnt.goodM {lv:Int→Int}{l:List Ev}(h:Cnt lv l):Good (made lv l):=by
 have:=h.good (Nat.le_refl l.length)
 rwa [List.take_length] at this
theorem Cnt.nil {lv:Int→Int}:Cnt lv []:=fun i hi=>absurd hi (by simp)
theorem Cnt.snoc {lv:Int→Int}{l:List Ev}{e:Ev}{k:Kd}(h:Cnt lv l)(he:Acc (made lv l) e k):Cnt lv (l++[e]):=fun i hi=>by
 rw[List.length_append] at hi
 simp only[List.length_cons,List.length_nil] at hi
 by_cases q:i < l.length
 ·rw[List.take_append_of_le_length (by omega),qK q]
  exact h i q
 ·obtain rfl:i=l.length:=by omega
  rw[List.take_left,zec rfl]
  exact⟨k,he⟩
theorem Cnt.take {lv:Int→Int}{l:List Ev}(h:Cnt lv l)(n:Nat):Cnt lv (l.take n):=fun i hi=>by
 rw[List.length_take] at hi
 have h1:=h i (by omega)
 rw[List.take_take,Nat.min_eq_left (by omega)]
 have:el (l.take n) i=el l i:=by
  rw[yp _ (by rw[List.length_take];omega),yp _ (by omega),List.getElem_take]
 rw[this]
 exact h1
structure HOk (lv:Int→Int) (h:Hist):Prop where
 cnt:Cnt lv h.counted
 now:h.now=made lv h.counted
 le:h.counted.length≤h.events.length
theorem HOk.good {lv:Int→Int}{h:Hist}(q:HOk lv h):Good h.now:=by rw[q.now];exact q.cnt.goodM
theorem HOk.pre {lv:Int→Int}{h:Hist}(q:HOk lv h)(hn:h.events.length≤1000):HistPre h:=⟨q.good.rl,q.good.last,by omega,by have:=q.le;omega⟩
theorem HOk.init {lv:Int→Int}:HOk lv {}:=⟨Cnt.nil,rfl,Nat.le_refl _⟩
theorem vf {h:Hist}{e:Ev}(he:eventE e=0)(ha:zT h e=0) :
 (kindOf e.kind=some .undo∧0 < h.counted.length)∨∃ k,Acc h.now e k:=by
 obtain⟨k,hk,hnm,hvl,hbd,-⟩:=jV he
 have c1:e.num=h.events.length+1:=by
  apply Classical.byContradiction
  intro q
  unfold zT at ha
  rw[if_pos q] at ha
  cases ha
 by_cases cu:k=.undo
 ·subst cu
  refine .inl ⟨hk,?_⟩
  apply Classical.byContradiction
  intro q
  unfold zT at ha
  rw[if_neg (by simpa using c1),hk,List.eq_nil_of_length_eq_zero (show h.counted.length=0 by omega)] at ha
  cases ha
 ·rw[wr c1 hk cu] at ha
  split at ha
  ·cases ha
  ·rename_i c3
   split at ha
   ·rename_i c4;exact absurd ha c4
   ·rename_i c4
    exact .inr ⟨k,he,hk,cu,Int.not_lt.1 c3,Classical.not_not.1 c4,ha⟩
theorem HOk.add {lv:Int→Int}{h:Hist}{e:Ev}(q:HOk lv h)(he:eventE e=0)(ha:zT h e=0):HOk lv (kr lv h e):=by
 refine⟨?_,add_made lv q.now e,?_⟩
 ·rcases vf he ha with⟨hk,h0⟩ | ⟨k,hk⟩
  ·unfold kr
   rw[if_pos hk]
   show Cnt lv h.counted.dropLast
   rw[List.dropLast_eq_take]
   exact q.cnt.take _
  ·unfold kr
   rw[if_neg (by rw[hk.kind];simp only[Option.some.injEq];exact hk.real)]
   exact q.cnt.snoc (by rw[← q.now];exact hk)
 ·unfold kr
  have:=q.le
  split
  ·show h.counted.dropLast.length≤(h.events++[e]).length
   rw[List.length_dropLast,List.length_append];omega
  ·show (h.counted++[e]).length≤(h.events++[e]).length
   rw[List.length_append,List.length_append];omega
def ownC:Contract:=fun _ args=>⟨∃ e,args=[.agg (encEv e)]∧e.names.length≤1000000∧e.vals.length≤1000000,.agg (encEv (zI (cellsOf (arg args 0)))),none⟩
attribute [go_sem] ownC
end Go.Fly.Off
end
