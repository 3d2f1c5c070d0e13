/- Part of a proof. No conditions. -/
import Derived.WalkKit
import Derived.Laws.AppendOwn
import Derived.CallsIn
import Derived.RangeFuncLeaves
import Derived.RangeFuncRecord
import Derived.Laws.BytesArg
set_option linter.unusedSimpArgs false
set_option linter.unusedVariables false
section
namespace Go.Fly
open Go
abbrev Loc:=Nat×Nat
inductive V where
 | top
 | int (k:IntKind) (n:Int)
 | bool (b:Bool)
 | flt (k:FloatKind) (bits:Nat)
 | cplx (k:FloatKind) (re im:Nat)
 | str (s:List UInt8)
 | nilp
 | rawp (L:Nat)
 | mapp (L:Nat)
 | tabp (xs:List Value)
 | mapc (o:Obj)
 | nilfn
 | nils
 | ptr (l:Loc) (off:Nat)
 | eptr (l:Loc) (n sz i off:Nat)
 | cptr (cs:List V)
 | sl (n sz:Nat) (get:Nat→List V)
 | msl (l:Loc) (off len:Nat)
 | bsl (l:Loc) (off len:Nat)
 | psl (l:Loc) (n off len:Nat)
 | fn (f:Fn) (first cap:List V)
 | agg (cs:List V)
 | tup (vs:List V)
instance:Inhabited V:=⟨.top⟩
def jg:V→Bool
 | .msl _ _ _=>true
 | _=>false
inductive AObj where
 | cells (cs:List V)
 | arr (n sz:Nat) (get:Nat→List V)
 | dead
 | raw (o:Obj)
 | buf (c sz:Nat) (get:Nat→List V)
abbrev Heap:=Loc→Option AObj
structure K where
 w:World
 M:Nat→Prop
 hp:Heap
 B:Loc→Option (Nat×Nat)
 nm:Loc→Prop
def K.owned (k:K)(b:Nat):Prop:=∃ l o c,k.hp l=some o∧k.B l=some (b,c)
def mslVal (B:Option (Nat×Nat))(off sz len:Nat):Value :=
 match B with
 | none=>.slice none 0 0
 | some (b,c)=>.slice (some ⟨b,off * sz,none⟩) len (c - off)
def eptrVal (B:Option (Nat×Nat))(o:Nat):Value :=
 match B with
 | none=>.pointer none
 | some (b,_)=>.pointer (some ⟨b,o,none⟩)
inductive Pu:V→Prop
 | top:Pu .top
 | int (k:IntKind) (n:Int):Pu (.int k n)
 | bool (b:Bool):Pu (.bool b)
 | flt (k:FloatKind) (n:Nat):Pu (.flt k n)
 | cplx (k:FloatKind) (a b:Nat):Pu (.cplx k a b)
 | str (s:List UInt8):Pu (.str s)
 | nilp:Pu .nilp
 | nilfn:Pu .nilfn
 | tabp (xs:List Value):Pu (.tabp xs)
 | mapc (o:Obj):Pu (.mapc o)
 | nils:Pu .nils
 | cptr (cs:List V) (h:∀ (j:Nat) (v:V),cs[j]?=some v→Pu v):Pu (.cptr cs)
 | sl (n sz:Nat) (get:Nat→List V) (h:∀ (i j:Nat) (v:V),i < n→(get i)[j]?=some v→Pu v):Pu (.sl n sz get)
 | fn (f:Fn) (first cap:List V) (hf:∀ (j:Nat) (v:V),first[j]?=some v→Pu v) (hc:∀ (j:Nat) (v:V),cap[j]?=some v→Pu v):Pu (.fn f first cap)
 | agg (cs:List V) (h:∀ (j:Nat) (v:V),cs[j]?=some v→Pu v):Pu (.agg cs)
 | tup (cs:List V) (h:∀ (j:Nat) (v:V),cs[j]?=some v→Pu v):Pu (.tup cs)
inductive R (k:K):V→Value→Prop
 | top (cv:Value):R k .top cv
 | int (ik:IntKind) (n:Int):R k (.int ik n) (.int ik n)
 | bool (b:Bool):R k (.bool b) (.bool b)
 | flt (fk:FloatKind) (n:Nat):R k (.flt fk n) (.float fk n)
 | cplx (fk:FloatKind) (a b:Nat):R k (.cplx fk a b) (.complex fk a b)
 | str (s:List UInt8):R k (.str s) (.string ⟨s.toArray⟩)
 | nilp:R k .nilp (.pointer none)
 | rawp (L:Nat):R k (.rawp L) (.pointer (some ⟨L,0,none⟩))
 | mapp (L:Nat):R k (.mapp L) (.map (some L))
 | nilfn:R k .nilfn .nilFunc
 | tabp (xs:List Value) (b:Nat) (ty:TypeId) (fz:Nat×Nat) (hM:¬ k.M b) (hb:b < k.w.heap.size) (hh:k.w.heap[b]?=some (.cells xs.toArray ty fz)):R k (.tabp xs) (.pointer (some ⟨b,0,none⟩))
 | mapc (o:Obj) (b:Nat) (hM:¬ k.M b) (hb:b < k.w.heap.size) (hh:k.w.heap[b]?=some o):R k (.mapc o) (.map (some b))
 | nils:R k .nils (.slice none 0 0)
 | ptr (l:Loc) (off:Nat) (cv:Value) (h1:cv.oneCell'=true) (hn:k.nm l)
  (h:∀ cs,k.hp l=some (.cells cs)→cv=eptrVal (k.B l) off):R k (.ptr l off) cv
 | eptr (l:Loc) (n sz i off:Nat) (cv:Value) (h1:cv.oneCell'=true) (hn:k.nm l)
  (h:∀ n' sz' get,k.hp l=some (.arr n' sz' get)→n≤n'∧i < n∧(n=n'→sz'=sz∧cv=eptrVal (k.B l) (i * sz+off))):R k (.eptr l n sz i off) cv
 | cptr (cs:List V) (b off:Nat) (x:Nat→Value) (hM:¬ k.M b) (hb:b < k.w.heap.size) (hp:Pu (.cptr cs))
  (hc:∀ j,j < cs.length→k.w.cell? ⟨b,off+j,none⟩=some (x j))
  (h:∀ (j:Nat) (v:V),cs[j]?=some v→R k v (x j)):R k (.cptr cs) (.pointer (some ⟨b,off,none⟩))
 | sl0 (sz:Nat) (get:Nat→List V) (oa:Option Addr) (cap:Nat):R k (.sl 0 sz get) (.slice oa 0 cap)
 | sl (n sz:Nat) (get:Nat→List V) (b off cap:Nat) (x:Nat→Nat→Value) (hM:¬ k.M b) (hb:b < k.w.heap.size) (hcap:n≤cap) (hp:Pu (.sl n sz get))
  (hl:∀ i,i < n→(get i).length=sz)
  (hc:∀ i j,i < n→j < sz→k.w.cell? ⟨b,off+i * sz+j,none⟩=some (x i j))
  (h:∀ (i j:Nat) (v:V),i < n→(get i)[j]?=some v→R k v (x i j)):R k (.sl n sz get) (.slice (some ⟨b,off,none⟩) n cap)
 | msl (l:Loc) (off len:Nat) (cv:Value) (h1:cv.oneCell'=true) (hn:k.nm l)
  (h:∀ n sz get,k.hp l=some (.arr n sz get)→off+len≤n∧(off+len=n→cv=mslVal (k.B l) off sz len)):R k (.msl l off len) cv
 | bsl (l:Loc) (off len:Nat) (cv:Value) (h1:cv.oneCell'=true) (hn:k.nm l)
  (h:∀ c sz get,k.hp l=some (.buf c sz get)→∃ b,k.B l=some (b,c)∧off+len≤c∧cv=.slice (some ⟨b,off * sz,none⟩) len (c - off)):R k (.bsl l off len) cv
 | psl (l:Loc) (n off len:Nat) (cv:Value) (h1:cv.oneCell'=true) (hn:k.nm l)
  (h:∀ n' sz get,k.hp l=some (.arr n' sz get)→n≤n'∧off+len≤n∧(n=n'→cv=mslVal (k.B l) off sz len)):R k (.psl l n off len) cv
 | fn (f:Fn) (first cap:List V) (fs cs:Array Value) (h1:fs.size=first.length) (h2:cs.size=cap.length)
  (hf:∀ (j:Nat) (v:V),first[j]?=some v→R k v (fs.getD j undef)) (hc:∀ (j:Nat) (v:V),cap[j]?=some v→R k v (cs.getD j undef)):R k (.fn f first cap) (.func f fs cs)
 | agg (cs:List V) (xs:Array Value) (hs:xs.size=cs.length) (h:∀ (j:Nat) (v:V),cs[j]?=some v→R k v (xs.getD j undef)):R k (.agg cs) (.agg xs)
 | tup (cs:List V) (xs:Array Value) (hs:xs.size=cs.length) (h:∀ (j:Nat) (v:V),cs[j]?=some v→R k v (xs.getD j undef)):R k (.tup cs) (.tuple xs)
def compat (h:Option AObj)(B B':Option (Nat×Nat)):AObj→Prop
 | .cells _=>(∃ cs,h=some (.cells cs))∧B'=B
 | .arr n' sz' _=>∃ n get,h=some (.arr n sz' get)∧n≤n'∧(n=n'→B'=B)
 | .dead=>True
 | .raw _=>True
 | .buf c' sz' _=>(∃ get,h=some (.buf c' sz' get))∧B'=B
structure Step (k k':K):Prop where
 os:k'.w.os=k.w.os
 tape:k'.w.tape=k.w.tape
 output:k'.w.output=k.w.output
 size:k.w.heap.size≤k'.w.heap.size
 keep:∀ b,b < k.w.heap.size→¬ k.owned b→k'.w.heap[b]?=k.w.heap[b]?
 own:∀ b,k'.owned b→k.owned b∨k.w.heap.size≤b
 M:∀ b,b < k.w.heap.size→k'.M b→k.M b
 M2:∀ b,b < k.w.heap.size→¬ k.owned b→k.M b→k'.M b
 nm:∀ l,k.nm l→k'.nm l
 names:∀ l,k.nm l→∀ o',k'.hp l=some o'→compat (k.hp l) (k.B l) (k'.B l) o'
theorem Step.refl (k:K):Step k k where
 os:=rfl
 tape:=rfl
 output:=rfl
 size:=Nat.le_refl _
 keep:=fun _ _ _=>rfl
 own:=fun _ h=>.inl h
 M:=fun _ _ h=>h
 M2:=fun _ _ _ h=>h
 nm:=fun _ h=>h
 names:=fun l _ o' h=>by
  cases o' with
  | cells cs=>exact⟨⟨cs,h⟩,rfl⟩
  | arr n sz get=>exact⟨n,get,h,Nat.le_refl _,fun _=>rfl⟩
  | dead=>trivial
  | raw r=>trivial
  | buf c sz get=>exact⟨⟨get,h⟩,rfl⟩
theorem Step.trans {a b c:K}(h:Step a b)(h':Step b c):Step a c where
 os:=h'.os.trans h.os
 tape:=h'.tape.trans h.tape
 output:=h'.output.trans h.output
 size:=Nat.le_trans h.size h'.size
 keep:=fun x hx ho=>(h'.keep x (Nat.lt_of_lt_of_le hx h.size) (fun hb=>by
  rcases h.own x hb with q | q
  ·exact ho q
  ·omega)).trans (h.keep x hx ho)
 own:=fun x hx=>by
  rcases h'.own x hx with q | q
  ·exact h.own x q
  ·exact .inr (Nat.le_trans h.size q)
 M:=fun x hx hm=>h.M x hx (h'.M x (Nat.lt_of_lt_of_le hx h.size) hm)
 M2:=fun x hx ho hm=>h'.M2 x (Nat.lt_of_lt_of_le hx h.size) (fun hb=>by
  rcases h.own x hb with q | q
  ·exact ho q
  ·omega) (h.M2 x hx ho hm)
 nm:=fun l hl=>h'.nm l (h.nm l hl)
 names:=fun l hl o'' ho''=>by
  have q:=h'.names l (h.nm l hl) o'' ho''
  cases o'' with
  | cells cs =>
    obtain⟨⟨cs',hcs'⟩,hB⟩:=q
    obtain⟨q1,q2⟩:=h.names l hl _ hcs'
    exact⟨q1,hB.trans q2⟩
  | arr n'' sz'' get'' =>
    obtain⟨n',get',hq,hle,hB⟩:=q
    obtain⟨n,get,hq2,hle2,hB2⟩:=h.names l hl _ hq
    exact⟨n,get,hq2,Nat.le_trans hle2 hle,fun e=>(hB (by omega)).trans (hB2 (by omega))⟩
  | dead=>trivial
  | raw r=>trivial
  | buf c'' sz'' get'' =>
    obtain⟨⟨get',hq⟩,hB⟩:=q
    obtain⟨q1,q2⟩:=h.names l hl _ hq
    exact⟨q1,hB.trans q2⟩
theorem World.cell_eq_of_heap {w w':World}{b off:Nat}(h:w'.heap[b]?=w.heap[b]?):w'.cell? ⟨b,off,none⟩=w.cell? ⟨b,off,none⟩:=by
 simp[World.cell?,h]
theorem World.lt_of_cell {w:World}{b off:Nat}{x:Value}(h:w.cell? ⟨b,off,none⟩=some x):b < w.heap.size:=by
 by_cases q:b < w.heap.size
 ·exact q
 ·simp[World.cell?,Array.getElem?_eq_none (Nat.not_lt.mp q)] at h
theorem R.step {k k':K}(st:Step k k')(hm:∀ b,k.owned b→k.M b){v:V}{cv:Value}(h:R k v cv):R k' v cv:=by
 induction h with
 | top cv=>exact .top cv
 | int ik n=>exact .int ik n
 | bool b=>exact .bool b
 | flt fk n=>exact .flt fk n
 | cplx fk a b=>exact .cplx fk a b
 | str s=>exact .str s
 | nilp=>exact .nilp
 | rawp L=>exact .rawp L
 | mapp L=>exact .mapp L
 | tabp xs b ty fz hM hb hh=>exact .tabp xs b ty fz (fun q=>hM (st.M b hb q)) (Nat.lt_of_lt_of_le hb st.size) (by rw[st.keep b hb (fun q=>hM (hm b q))];exact hh)
 | mapc o b hM hb hh=>exact .mapc o b (fun q=>hM (st.M b hb q)) (Nat.lt_of_lt_of_le hb st.size) (by rw[st.keep b hb (fun q=>hM (hm b q))];exact hh)
 | nilfn=>exact .nilfn
 | nils=>exact .nils
 | ptr l off cv h1 hn h =>
   refine .ptr l off cv h1 (st.nm l hn) fun cs hcs=>?_
   obtain⟨⟨cs',hcs'⟩,hB⟩:=st.names l hn _ hcs
   rw[h cs' hcs',hB]
 | eptr l n sz i off cv h1 hn h =>
   refine .eptr l n sz i off cv h1 (st.nm l hn) fun n' sz' get hg=>?_
   obtain⟨n0,get0,hq,hle,hB⟩:=st.names l hn _ hg
   obtain⟨h1,hi,h2⟩:=h _ _ _ hq
   refine⟨by omega,hi,fun e=>?_⟩
   obtain⟨h3,h4⟩:=h2 (by omega)
   exact⟨h3,by rw[h4,hB (by omega)]⟩
 | cptr cs b off x hM hb hp hc h ih =>
   have hk:=st.keep b hb (fun q=>hM (hm b q))
   exact .cptr cs b off x (fun q=>hM (st.M b hb q)) (Nat.lt_of_lt_of_le hb st.size) hp (fun j hj=>by rw[World.cell_eq_of_heap hk];exact hc j hj) ih
 | sl0 sz get oa cap=>exact .sl0 sz get oa cap
 | sl n sz get b off cap x hM hb hcap hp hl hc h ih =>
   have hk:=st.keep b hb (fun q=>hM (hm b q))
   exact .sl n sz get b off cap x (fun q=>hM (st.M b hb q)) (Nat.lt_of_lt_of_le hb st.size) hcap hp hl (fun i j hi hj=>by rw[World.cell_eq_of_heap hk];exact hc i j hi hj) ih
 | msl l off len cv h1 hn h =>
   refine .msl l off len cv h1 (st.nm l hn) fun n sz get hg=>?_
   obtain⟨n0,get0,hq,hle,hB⟩:=st.names l hn _ hg
   obtain⟨h1,h2⟩:=h _ _ _ hq
   refine⟨by omega,fun e=>?_⟩
   rw[h2 (by omega),hB (by omega)]
 | psl l n off len cv h1 hn h =>
   refine .psl l n off len cv h1 (st.nm l hn) fun n' sz get hg=>?_
   obtain⟨n0,get0,hq,hle,hB⟩:=st.names l hn _ hg
   obtain⟨h1,h2,h3⟩:=h _ _ _ hq
   refine⟨by omega,h2,fun e=>?_⟩
   rw[h3 (by omega),hB (by omega)]
 | bsl l off len cv h1 hn h =>
   refine .bsl l off len cv h1 (st.nm l hn) fun c sz get hg=>?_
   obtain⟨⟨get0,hq⟩,hB⟩:=st.names l hn _ hg
   rw[hB];exact h _ _ _ hq
 | fn f first cap fs cs h1 h2 hf hc ihf ihc=>exact .fn f first cap fs cs h1 h2 ihf ihc
 | agg cs xs hs h ih=>exact .agg cs xs hs ih
 | tup cs xs hs h ih=>exact .tup cs xs hs ih
theorem R.int_inv {k:K}{ik:IntKind}{n:Int}{cv:Value}(h:R k (.int ik n) cv):cv=.int ik n:=by cases h;rfl
theorem R.bool_inv {k:K}{b:Bool}{cv:Value}(h:R k (.bool b) cv):cv=.bool b:=by cases h;rfl
theorem R.flt_inv {k:K}{fk:FloatKind}{n:Nat}{cv:Value}(h:R k (.flt fk n) cv):cv=.float fk n:=by cases h;rfl
theorem R.cplx_inv {k:K}{fk:FloatKind}{a b:Nat}{cv:Value}(h:R k (.cplx fk a b) cv):cv=.complex fk a b:=by cases h;rfl
theorem R.str_inv {k:K}{s:List UInt8}{cv:Value}(h:R k (.str s) cv):cv=.string ⟨s.toArray⟩:=by cases h;rfl
theorem R.nilp_inv {k:K}{cv:Value}(h:R k .nilp cv):cv=.pointer none:=by cases h;rfl
theorem R.mapc_inv {k:K}{o:Obj}{cv:Value}(h:R k (.mapc o) cv):∃ b,cv=.map (some b)∧k.w.heap[b]?=some o:=by
 cases h with
 | mapc _ b hM hb hh=>exact⟨b,rfl,hh⟩
theorem R.mapp_inv {k:K}{L:Nat}{cv:Value}(h:R k (.mapp L) cv):cv=.map (some L):=by cases h;rfl
theorem R.nils_inv {k:K}{cv:Value}(h:R k .nils cv):cv=.slice none 0 0:=by cases h;rfl
theorem R.agg_inv {k:K}{cs:List V}{cv:Value}(h:R k (.agg cs) cv):∃ xs,cv=.agg xs∧xs.size=cs.length∧∀ (j:Nat) (v:V),cs[j]?=some v→R k v (xs.getD j undef):=by
 cases h with
 | agg _ xs hs h=>exact⟨xs,rfl,hs,h⟩
theorem R.tup_inv {k:K}{cs:List V}{cv:Value}(h:R k (.tup cs) cv):∃ xs,cv=.tuple xs∧xs.size=cs.length∧∀ (j:Nat) (v:V),cs[j]?=some v→R k v (xs.getD j undef):=by
 cases h with
 | tup _ xs hs h=>exact⟨xs,rfl,hs,h⟩
theorem R.fn_inv {k:K}{f:Fn}{first cap:List V}{cv:Value}(h:R k (.fn f first cap) cv):∃ fs cs,cv=.func f fs cs∧fs.size=first.length∧cs.size=cap.length ∧
 (∀ (j:Nat) (v:V),first[j]?=some v→R k v (fs.getD j undef))∧∀ (j:Nat) (v:V),cap[j]?=some v→R k v (cs.getD j undef):=by
 cases h with
 | fn _ _ _ fs cs h1 h2 h3 h4=>exact⟨fs,cs,rfl,h1,h2,h3,h4⟩
theorem R.pure {k k':K}(hk:∀ b,b < k.w.heap.size→¬ k.M b→b < k'.w.heap.size∧k'.w.heap[b]?=k.w.heap[b]?∧¬ k'.M b){v:V}{cv:Value}(hp:Pu v)(h:R k v cv):R k' v cv:=by
 induction h with
 | top cv=>exact .top cv
 | int ik n=>exact .int ik n
 | bool b=>exact .bool b
 | flt fk n=>exact .flt fk n
 | cplx fk a b=>exact .cplx fk a b
 | str s=>exact .str s
 | nilp=>exact .nilp
 | rawp L=>cases hp
 | mapp L=>cases hp
 | tabp xs b ty fz hM hb hh =>
   obtain⟨h1,h2,h3⟩:=hk b hb hM
   exact .tabp xs b ty fz h3 h1 (by rw[h2];exact hh)
 | mapc o b hM hb hh =>
   obtain⟨h1,h2,h3⟩:=hk b hb hM
   exact .mapc o b h3 h1 (by rw[h2];exact hh)
 | nilfn=>exact .nilfn
 | nils=>exact .nils
 | ptr l off cv h1 hn h=>cases hp
 | eptr l n sz i off cv h1 hn h=>cases hp
 | cptr cs b off x hM hb hpu hc h ih =>
   obtain⟨h1,h2,h3⟩:=hk b hb hM
   cases hp with
   | cptr _ hp=>exact .cptr cs b off x h3 h1 hpu (fun j hj=>by rw[World.cell_eq_of_heap h2];exact hc j hj) (fun j v hv=>ih j v hv (hp j v hv))
 | sl0 sz get oa cap=>exact .sl0 sz get oa cap
 | sl n sz get b off cap x hM hb hcap hpu hl hc h ih =>
   obtain⟨h1,h2,h3⟩:=hk b hb hM
   cases hp with
   | sl _ _ _ hp=>exact .sl n sz get b off cap x h3 h1 hcap hpu hl (fun i j hi hj=>by rw[World.cell_eq_of_heap h2];exact hc i j hi hj) (fun i j v hi hv=>ih i j v hi hv (hp i j v hi hv))
 | msl l off len cv h1 hn h=>cases hp
 | bsl l off len cv h1 hn h=>cases hp
 | psl l n off len cv h1 hn h=>cases hp
 | fn f first cap fs cs h1 h2 hf hc ihf ihc =>
   cases hp with
   | fn _ _ _ p1 p2=>exact .fn f first cap fs cs h1 h2 (fun j v hv=>ihf j v hv (p1 j v hv)) (fun j v hv=>ihc j v hv (p2 j v hv))
 | agg cs xs hs h ih =>
   cases hp with
   | agg _ p=>exact .agg cs xs hs (fun j v hv=>ih j v hv (p j v hv))
 | tup cs xs hs h ih =>
   cases hp with
   | tup _ p=>exact .tup cs xs hs (fun j v hv=>ih j v hv (p j v hv))
def ObjOk (k:K)(l:Loc):AObj→Prop
 | .cells cs=>∃ b c xs ty fz,k.B l=some (b,c)∧k.w.heap[b]?=some (.cells xs ty fz)∧(∀ o:Nat,¬ (fz.1≤o∧o < fz.2))∧xs.size=cs.length ∧
  ∀ (j:Nat) (v:V),cs[j]?=some v→R k v (xs.getD j undef)
 | .arr n sz get=>(∀ i,i < n→(get i).length=sz)∧True ∧
  match k.B l with
  | none=>n=0
  | some (b,c)=>n≤c∧∃ xs ty fz,k.w.heap[b]?=some (.cells xs ty fz)∧(∀ o:Nat,¬ (fz.1≤o∧o < fz.2))∧xs.size=c * sz ∧
   ∀ (i j:Nat) (v:V),i < n→(get i)[j]?=some v→R k v (xs.getD (i * sz+j) undef)
 | .dead=>k.B l=none
 | .raw r=>k.B l=some (l.2,0)∧k.w.heap[l.2]?=some r
 | .buf c sz get=>(∀ i,i < c→(get i).length=sz)∧∃ b xs ty fz,k.B l=some (b,c)∧k.w.heap[b]?=some (.cells xs ty fz)∧(∀ o:Nat,¬ (fz.1≤o∧o < fz.2))∧xs.size=c * sz ∧
  ∀ (i j:Nat) (v:V),i < c→(get i)[j]?=some v→R k v (xs.getD (i * sz+j) undef)
structure HeapOk (k:K):Prop where
 lt:∀ b,k.M b→b < k.w.heap.size
 own:∀ b,k.owned b→k.M b∧b < k.w.heap.size
 nm:∀ l o,k.hp l=some o→k.nm l
 inj:∀ l l' b c c' o o',k.hp l=some o→k.hp l'=some o'→k.B l=some (b,c)→k.B l'=some (b,c')→l=l'
 obj:∀ l o,k.hp l=some o→ObjOk k l o
structure St where
 ck:Nat
 tm:List V
 hp:Heap
def zjB (ck:Nat)(hp:Heap)(l:Loc):Prop:=l.1 < ck∨(l.1=ck∧(hp l).isSome=true)
def mkK (w:World)(M:Nat→Prop)(B:Loc→Option (Nat×Nat))(hp:Heap)(ck:Nat):K:=⟨w,M,hp,B,zjB ck hp⟩
def zag (k:K)(tm:List V)(tmps:Array Value):Prop:=tm.length=tmps.size∧∀ (t:Nat) (v:V),tm[t]?=some v→R k v (tmps.getD t undef)
def Marks (k:K)(base:Nat)(ds:List Deferred):Prop :=
 ∃ rs:List Nat,ds=rs.map (fun r=>{ target:=.collected r,args:=#[] })∧rs.Nodup∧∀ r∈rs,k.w.heap[r]?=some (.deferred (some []))∧k.M r∧¬ k.owned r∧base≤r
def Rel (k0:K)(s:St)(a:Act)(w:World):Prop :=
 ∃ M B,Step k0 (mkK w M B s.hp s.ck)∧HeapOk (mkK w M B s.hp s.ck)∧zag (mkK w M B s.hp s.ck) s.tm a.tmps∧Marks (mkK w M B s.hp s.ck) k0.w.heap.size a.defers
def WF (r:Option Nat):Fence:={ fn:=fun _=>True,depth:=none,alive:=false,round:=r }
theorem zfG (r:Option Nat)(P:Program)(m:Machine):m.fenced P (WF r):=fenced_wide P m
theorem qN {r:Option Nat}{n:Nat}{P:Program}{f:FuncId}{args:Array Value}{w:World}{Q:Ending→World→Prop} :
 CallsIn (WF r) n P f args w Q↔Calls P f args w Q:=callsIn_wide (n:=n)
structure Out where
 pre:Prop
 val:V
 obj:Option AObj:=none
abbrev Contract:=Loc→List V→Out
def zae (k:K)(args:List V)(vs:Array Value):Prop:=vs.size=args.length∧∀ (j:Nat) (v:V),args[j]?=some v→R k v (vs.getD j undef)
def yN (w:World)(M:Nat→Prop):K:=⟨w,M,fun _=>none,fun _=>none,fun _=>False⟩
def zes (rl:Loc)(o:Option AObj):Heap:=fun l=>if l=rl then o else none
def ql (w:World)(M:Nat→Prop)(rl:Loc)(o:Option AObj)(B:Option (Nat×Nat)):K :=
 ⟨w,fun b=>M b∨(o.isSome=true∧∃ c,B=some (b,c)),zes rl o,fun _=>B,fun l=>l=rl⟩
def Holds (P:Program)(G:Nat→V)(f:FuncId)(C:Contract):Prop :=
 ∀ (rl:Loc) (args:List V) (w:World) (M:Nat→Prop) (vs:Array Value),
  (∀ b,M b→b < w.heap.size)→(∀ g,R (yN w M) (G g) (.pointer (some ⟨g,0,none⟩))) →
  (∀ a∈args,Pu a)→zae (yN w M) args vs→(C rl args).pre →
  Calls P f vs w fun e w'=>∃ rv B,e=.returned rv ∧
   Step (yN w M) (ql w' M rl (C rl args).obj B)∧HeapOk (ql w' M rl (C rl args).obj B)∧R (ql w' M rl (C rl args).obj B) (C rl args).val rv
structure Cx where
 P:Program
 Γ:FuncId→Option Contract
 G:Nat→V
 r:Option Nat
 k0:K
structure Cx.Ok (X:Cx):Prop where
 Γ:∀ f C,X.Γ f=some C→Holds X.P X.G f C
 G:∀ g,Pu (X.G g)∨X.G g=.top
 G0:∀ g,R X.k0 (X.G g) (.pointer (some ⟨g,0,none⟩))
 own:∀ b,X.k0.owned b→X.k0.M b
def T (X:Cx)(c:Code)(s:St)(Q:Exit→St→Prop):Prop :=
 ∀ a w,Rel X.k0 s a w→c.wpIn (WF X.r) 0 X.P (fun e a' w'=>∃ s',Q e s'∧Rel X.k0 s' a' w') a w
def zaN:Value→V
 | .int k n=>.int k n
 | .bool b=>.bool b
 | .float k n=>.flt k n
 | .complex k a b=>.cplx k a b
 | .string s=>.str s.data.toList
 | .pointer none=>.nilp
 | .nilFunc=>.nilfn
 | .slice none 0 0=>.nils
 | .func f ⟨[]⟩ ⟨[]⟩=>.fn f [] []
 | _=>.top
def ofValue:Value→V
 | .agg cs=>.agg (cs.toList.map zaN)
 | v=>zaN v
theorem zdN (k:K)(v:Value):R k (zaN v) v:=by
 unfold zaN
 split
 ·exact .int _ _
 ·exact .bool _
 ·exact .flt _ _
 ·exact .cplx _ _ _
 ·rename_i s;exact .str s.data.toList
 ·exact .nilp
 ·exact .nilfn
 ·exact .nils
 ·exact .fn _ _ _ _ _ rfl rfl (by simp) (by simp)
 ·exact .top _
theorem qn (k:K)(v:Value):R k (ofValue v) v:=by
 unfold ofValue
 split
 ·rename_i cs
  refine .agg _ _ (by simp) fun j v hv=>?_
  simp only[List.getElem?_map,Option.map_eq_some_iff] at hv
  obtain⟨x,hx,rfl⟩:=hv
  have:cs[j]?=some x:=by simpa using hx
  simp only[Array.getD_eq_getD_getElem?,this,Option.getD_some]
  exact zdN k x
 ·exact zdN k v
def ev (X:Cx)(s:St):Operand→V
 | .tmp t=>s.tm.getD t .top
 | .const v=>ofValue v
 | .global g=>X.G g
 | .func f=>.fn (.func f) [] []
theorem zcw {X:Cx}(hX:X.Ok){s:St}{tmps:Array Value}{ds:List Deferred}{k:K}(hs:Step X.k0 k)(ht:zag k s.tm tmps)(x:Operand):R k (ev X s x) ((⟨tmps,ds⟩:Act).eval x):=by
 cases x with
 | tmp t =>
   simp only[ev,Act.eval]
   cases h:s.tm[t]? with
   | none=>simp only[List.getD_eq_getElem?_getD,h,Option.getD_none];exact .top _
   | some v=>simp only[List.getD_eq_getElem?_getD,h,Option.getD_some];exact ht.2 t v h
 | const v=>exact qn k v
 | global g=>exact(hX.G0 g).step hs hX.own
 | func f=>exact .fn _ _ _ _ _ rfl rfl (by simp) (by simp)
def putTm (tm:List V)(dst:Option Tmp)(v:V):List V :=
 match dst with
 | some d=>tm.set d v
 | none=>tm
theorem zag.put {k:K}{tm:List V}{a:Act}(h:zag k tm a.tmps){dst:Option Tmp}{v:V}{cv:Value}(hv:R k v cv):zag k (putTm tm dst v) (a.put dst cv).tmps:=by
 cases dst with
 | none=>exact h
 | some d =>
   refine⟨by simp[putTm,Act.put,h.1],fun t u hu=>?_⟩
   simp only[putTm,List.getElem?_set] at hu
   simp only[Act.put,Array.getD_eq_getD_getElem?,Array.getElem?_setIfInBounds]
   by_cases e:d=t
   ·subst e
    simp only[if_true] at hu ⊢
    by_cases q:d < tm.length
    ·simp only[q,if_true,Option.some.injEq] at hu
     subst hu
     simp only[h.1 ▸ q,if_true,Option.getD_some]
     exact hv
    ·simp[q] at hu
   ·simp only[e,if_false] at hu ⊢
    have:=h.2 t u hu
    simpa [Array.getD_eq_getD_getElem?] using this
theorem zag.step {k k':K}(st:Step k k')(hm:∀ b,k.owned b→k.M b){tm:List V}{tmps:Array Value}(h:zag k tm tmps):zag k' tm tmps :=
 ⟨h.1,fun t v hv=>(h.2 t v hv).step st hm⟩
theorem Marks.step {k k':K}(st:Step k k'){base:Nat}{ds:List Deferred}(h:Marks k base ds):Marks k' base ds:=by
 obtain⟨rs,hds,hnd,hr⟩:=h
 refine⟨rs,hds,hnd,fun r hr'=>?_⟩
 obtain⟨h1,h2,h3,h4⟩:=hr r hr'
 have hlt:r < k.w.heap.size:=(Array.getElem?_eq_some_iff.1 h1).1
 exact⟨by rw[st.keep r hlt h3];exact h1,st.M2 r hlt h3 h2,fun q=>(st.own r q).elim h3 (fun q=>by omega),h4⟩
theorem T.mono {X:Cx}{c:Code}{s:St}{Q Q':Exit→St→Prop}(h:T X c s Q)(hq:∀ e s',Q e s'→Q' e s'):T X c s Q' :=
 fun a w hr=>wpIn_mono (h a w hr) fun e _ _ ⟨s',h1,h2⟩=>⟨s',hq e s' h1,h2⟩
def zer (next:St→Prop)(Q:Exit→St→Prop):Exit→St→Prop
 | .normal,s=>next s
 | e,s=>Q e s
def jB (id:Nat)(Q:Exit→St→Prop):Exit→St→Prop
 | .exit id',s=>if id'=id then Q .normal s else Q (.exit id') s
 | e,s=>Q e s
theorem T.skip {X:Cx}{s:St}{Q:Exit→St→Prop}(h:Q .normal s):T X .skip s Q:=fun _ _ hr=>wpIn_skip ⟨s,h,hr⟩
theorem T.label {X:Cx}{l:Nat}{s:St}{Q:Exit→St→Prop}(h:Q .normal s):T X (.label l) s Q:=fun _ _ hr=>wpIn_label ⟨s,h,hr⟩
theorem T.exit {X:Cx}{id:Nat}{s:St}{Q:Exit→St→Prop}(h:Q (.exit id) s):T X (.exit id) s Q:=fun _ _ hr=>wpIn_exit ⟨s,h,hr⟩
theorem T.ret {X:Cx}{s:St}{Q:Exit→St→Prop}(h:Q .ret s):T X .ret s Q:=fun _ _ hr=>wpIn_ret ⟨s,h,hr⟩
theorem T.seq {X:Cx}{x y:Code}{s:St}{Q:Exit→St→Prop}(h:T X x s (zer (fun s'=>T X y s' Q) Q)):T X (.seq x y) s Q:=by
 intro a w hr
 refine wpIn_seq (wpIn_mono (h a w hr) fun e a' w' ⟨s',h1,h2⟩=>?_)
 cases e <;> first | exact⟨s',h1,h2⟩ | exact h1 a' w' h2
theorem T.block {X:Cx}{id:Nat}{c:Code}{s:St}{Q:Exit→St→Prop}(h:T X c s (jB id Q)):T X (.block id c) s Q:=by
 intro a w hr
 refine wpIn_block (wpIn_mono (h a w hr) fun e a' w' ⟨s',h1,h2⟩=>?_)
 cases e with
 | exit id' =>
   simp only[jB,Exit.inBlock] at h1 ⊢
   by_cases q:id'=id
   ·simp only[q,if_true] at h1 ⊢;exact⟨s',h1,h2⟩
   ·simp only[q,if_false] at h1 ⊢;exact⟨s',h1,h2⟩
 | _=>exact⟨s',h1,h2⟩
theorem T.cond {X:Cx}(hX:X.Ok){c:Operand}{x y:Code}{s:St}{Q:Exit→St→Prop}{t:Bool}(hc:ev X s c=.bool t)
 (h1:t=true→T X x s Q) (h2:t=false→T X y s Q):T X (.cond c x y) s Q:=by
 intro a w hr
 have hr':=hr
 obtain⟨M,B,hst,hho,htm,hmk⟩:=hr
 have:=zcw hX (ds:=a.defers) hst htm c
 rw[hc] at this
 have:=this.bool_inv
 cases t
 ·exact wpIn_cond this (h2 rfl a w hr')
 ·exact wpIn_cond this (h1 rfl a w hr')
theorem zfK (p:Nat→Prop)(h:∃ n,p n):∃ n,p n∧∀ m,m < n→¬ p m:=by
 obtain⟨n,hn⟩:=h
 induction n using Nat.strongRecOn with
 | _ n ih =>
   by_cases q:∃ m,m < n∧p m
   ·obtain⟨m,hm,hp⟩:=q;exact ih m hm hp
   ·exact⟨n,hn,fun m hm hp=>q ⟨m,hm,hp⟩⟩
def wu (k0:K)(s s':St):Prop:=∀ a w,Rel k0 s a w→Rel k0 s' a w
theorem wu.trans {k0:K}{a b c:St}(h:wu k0 a b)(h':wu k0 b c):wu k0 a c:=fun x y q=>h' x y (h x y q)
theorem T.ents {X:Cx}{c:Code}{s s':St}{Q:Exit→St→Prop}(he:wu X.k0 s s')(h:T X c s' Q):T X c s Q:=fun a w hr=>h a w (he a w hr)
theorem T.loop {X:Cx}{c:Code}{s:St}{Q:Exit→St→Prop}{α:Type}(S:α→St)(μ:α→Nat)(a0:α)(h0:wu X.k0 s (S a0))
 (round:∀ x,T X c (S x) (zer (fun s'=>∃ x',wu X.k0 s' (S x')∧μ x' < μ x) Q)):T X (.loop c) s Q:=by
 intro a w hr
 let p:Act→World→Nat→Prop:=fun a w n=>∃ x,μ x=n∧Rel X.k0 (S x) a w
 let m:Act→World→Nat:=fun a w=>Classical.epsilon fun n=>p a w n∧∀ j,j < n→¬ p a w j
 have hm:∀ a w,(∃ n,p a w n)→p a w (m a w)∧∀ j,j < m a w→¬ p a w j:=fun a w h=>Classical.epsilon_spec (zfK _ h)
 refine wpIn_loop (fun a w=>∃ n,p a w n) m ⟨μ a0,a0,rfl,h0 a w hr⟩ fun a w hI=>?_
 obtain⟨⟨x,hx,hrx⟩,hmin⟩:=hm a w hI
 refine wpIn_mono (round x a w hrx) fun e a' w' ⟨s',h1,h2⟩=>?_
 cases e with
 | normal =>
   obtain⟨x',he,hlt⟩:=h1
   have hp:p a' w' (μ x'):=⟨x',rfl,he a' w' h2⟩
   refine⟨⟨_,hp⟩,?_⟩
   have h3:=(hm a' w' ⟨_,hp⟩).2
   have:m a' w'≤μ x':=Nat.le_of_not_lt fun q=>h3 _ q hp
   omega
 | _=>exact⟨s',h1,h2⟩
theorem va {P:Program}{b:Frame}{a:Act}{k:List Item}{cs:List Frame}{w:World}{c:Code} :
 step P (lone (b.atR a (.code (.scope c)::k)) cs w)=.next (lone (b.atR a (.code c::.inScope c::k)) cs w) :=
 step_lone_go (by simp[stepG,stepG.exec,Frame.atR])
theorem zdr {P:Program}{b:Frame}{a:Act}{k:List Item}{cs:List Frame}{w:World}{c:Code} :
 step P (lone (b.atR a (.inScope c::k)) cs w)=.next (lone (b.atR a k) cs w) :=
 step_lone_go (by simp[stepG,stepG.exec,Frame.atR])
def zaR (Q:Exit→St→Prop):Exit→St→Prop
 | .goto _,_=>False
 | e,s=>Q e s
theorem T.scope {X:Cx}{c:Code}{s:St}{Q:Exit→St→Prop}(h:T X c s (zaR Q)):T X (.scope c) s Q:=by
 intro a w hr b k cs hro hb hrm
 obtain⟨e,a₁,w₁,⟨s',hq,hrel⟩,harr⟩:=h a w hr b (.inScope c::k) cs hro hb hrm
 have h0:(lone (b.atR a (.code (.scope c)::k)) cs w).fenced X.P (WF X.r):=zfG _ _ _
 cases e with
 | normal=>exact⟨.normal,a₁,w₁,⟨s',hq,hrel⟩,.head h0 va (StepsIn.trans harr (.one (zfG _ _ _) zdr))⟩
 | exit id =>
   have hx:exitTo id (.inScope c::k)=exitTo id k:=by simp[exitTo]
   exact⟨.exit id,a₁,w₁,⟨s',hq,hrel⟩,fun k' hk=>.head h0 va (harr.1 k' (by rw[hx];exact hk)),
    fun hr' hk=>let ⟨k₁,h1,h2⟩:=harr.2 hr' (by rw[hx];exact hk);⟨k₁,h1,.head h0 va h2⟩⟩
 | goto l=>exact hq.elim
 | ret=>exact⟨_,a₁,w₁,⟨s',hq,hrel⟩,.of_steps (.one h0 va) harr⟩
 | panic ch=>exact⟨_,a₁,w₁,⟨s',hq,hrel⟩,.of_steps (.one h0 va) harr⟩
 | outgrown=>exact⟨_,a₁,w₁,⟨s',hq,hrel⟩,.of_steps (.one h0 va) harr⟩
theorem getD_some {xs:Array Value}{j:Nat}{x:Value}(h:xs[j]?=some x):xs.getD j undef=x:=by simp[Array.getD_eq_getD_getElem?,h]
theorem z6 {w:World}{b:Nat}{xs:Array Value}{ty:TypeId}{fz:Nat×Nat}(h:w.heap[b]?=some (.cells xs ty fz)){j:Nat}(hj:j < xs.size) :
 w.cell? ⟨b,j,none⟩=some (xs.getD j undef):=by
 simp[World.cell?,h,Array.getD_eq_getD_getElem?,hj]
theorem wt {w:World}{b:Nat}{o:Obj}(h:w.heap[b]?=some o):b < w.heap.size:=(Array.getElem?_eq_some_iff.1 h).1
open Classical in
noncomputable def yA (f:V→V) (row:List V):List V:=if ∀ v∈row,Pu v then row else row.map f
theorem ww {f:V→V}{row:List V}(h:∀ v∈row,Pu v):yA f row=row:=by unfold yA;rw[if_pos h]
theorem vG {f:V→V}{row:List V}:(yA f row).length=row.length:=by unfold yA;split <;> simp
theorem qH {f:V→V}{row:List V}{j:Nat}{v:V}(h:(yA f row)[j]?=some v):∃ u,row[j]?=some u∧((v=u∧Pu u)∨v=f u):=by
 unfold yA at h
 split at h
 ·rename_i q;exact⟨v,h,.inl ⟨rfl,q v (List.mem_of_getElem? h)⟩⟩
 ·rw[List.getElem?_map,Option.map_eq_some_iff] at h
  obtain⟨u,h1,h2⟩:=h
  exact⟨u,h1,.inr h2.symm⟩
open Classical in
noncomputable def frz:Nat→Heap→V→V
 | 0,_,_=>.top
 | n+1,hp,v=>if Pu v then v else
   match v with
   | .msl l off len =>
     match hp l with
     | some (.arr m sz get)=>if off+len=m then .sl len sz (fun i=>yA (frz n hp) (get (off+i))) else .top
     | _=>.top
   | .bsl l off len =>
     match hp l with
     | some (.buf _ sz get)=>.sl len sz (fun i=>yA (frz n hp) (get (off+i)))
     | _=>.top
   | .ptr l off =>
     match hp l with
     | some (.cells cs)=>.cptr ((cs.drop off).map (frz n hp))
     | _=>.top
   | .eptr l m _ i off =>
     match hp l with
     | some (.arr m' _ get)=>if m=m' then .cptr (yA (frz n hp) ((get i).drop off)) else .top
     | _=>.top
   | .agg cs=>.agg (cs.map (frz n hp))
   | .tup cs=>.tup (cs.map (frz n hp))
   | .fn f first cap=>.fn f (first.map (frz n hp)) (cap.map (frz n hp))
   | .rawp _=>.top
   | .psl l n' off len =>
     match hp l with
     | some (.arr m sz get)=>if n'=m then .sl len sz (fun i=>yA (frz n hp) (get (off+i))) else .top
     | _=>.top
   | .mapp L =>
     match hp (0,L) with
     | some (.raw o)=>.mapc o
     | _=>.top
   | v=>v
theorem wm {α β:Type}{f:α→β}{l:List α}{j:Nat}{v:β}(h:(l.map f)[j]?=some v):∃ x,l[j]?=some x∧f x=v:=by
 simpa [List.getElem?_map,Option.map_eq_some_iff] using h
theorem frz_R {k k':K}(hk:HeapOk k)(hf:∀ b,b < k.w.heap.size→(¬ k.M b∨k.owned b)→b < k'.w.heap.size∧k'.w.heap[b]?=k.w.heap[b]?∧¬ k'.M b) :
 ∀ (n:Nat) {v:V} {cv:Value},R k v cv→Pu (frz n k.hp v)∧R k' (frz n k.hp v) cv:=by
 intro n
 induction n with
 | zero=>intro v cv _;exact⟨.top,.top _⟩
 | succ n ih =>
   intro v cv h
   by_cases hp:Pu v
   ·have e:frz (n+1) k.hp v=v:=by simp only[frz,if_pos hp]
    rw[e]
    exact⟨hp,h.pure (fun b hb hM=>hf b hb (.inl hM)) hp⟩
   ·simp only[frz,if_neg hp]
    cases h with
    | top cv=>exact absurd .top hp
    | int ik n=>exact absurd (.int _ _) hp
    | bool b=>exact absurd (.bool _) hp
    | flt fk n=>exact absurd (.flt _ _) hp
    | cplx fk a b=>exact absurd (.cplx _ _ _) hp
    | str s=>exact absurd (.str _) hp
    | nilp=>exact absurd .nilp hp
    | rawp L=>exact⟨.top,.top _⟩
    | mapp L =>
      dsimp only
      cases ho:k.hp (0,L) with
      | none=>exact⟨.top,.top _⟩
      | some o =>
        cases o with
        | raw r =>
          obtain⟨hB,hh⟩:=hk.obj (0,L) _ ho
          obtain⟨q1,q2,q3⟩:=hf L (wt hh) (.inr ⟨(0,L),_,0,ho,hB⟩)
          exact⟨.mapc _,.mapc _ L q3 q1 (by rw[q2];exact hh)⟩
        | _=>exact⟨.top,.top _⟩
    | nilfn=>exact absurd .nilfn hp
    | tabp xs b ty fz h1 h2 h3=>exact absurd (.tabp _) hp
    | mapc o b h1 h2 h3=>exact absurd (.mapc _) hp
    | nils=>exact absurd .nils hp
    | ptr l off cv h1c hn h =>
      dsimp only
      cases ho:k.hp l with
      | none=>exact⟨.top,.top _⟩
      | some o =>
        cases o with
        | arr m sz get=>exact⟨.top,.top _⟩
        | dead=>exact⟨.top,.top _⟩
        | raw r=>exact⟨.top,.top _⟩
        | buf c sz get=>exact⟨.top,.top _⟩
        | cells cs =>
          dsimp only
          obtain⟨b,c,xs,ty,fz,hB,hh,hz,hs,hr⟩:=hk.obj l _ ho
          have hcv:=h cs ho
          simp only[hB,eptrVal] at hcv
          subst hcv
          obtain⟨q1,q2,q3⟩:=hf b (wt hh) (.inr ⟨l,_,c,ho,hB⟩)
          have hpu:Pu (.cptr ((cs.drop off).map (frz n k.hp))):=by
           refine .cptr _ fun j v hv=>?_
           obtain⟨x,hx,rfl⟩:=wm hv
           rw[List.getElem?_drop] at hx
           exact(ih (hr _ _ hx)).1
          refine⟨hpu,.cptr _ b off (fun j=>xs.getD (off+j) undef) q3 q1 hpu (fun j hj=>?_) fun j v hv=>?_⟩
          ·rw[World.cell_eq_of_heap q2]
           simp only[List.length_map,List.length_drop] at hj
           exact z6 hh (by omega)
          ·obtain⟨x,hx,rfl⟩:=wm hv
           rw[List.getElem?_drop] at hx
           exact(ih (hr _ _ hx)).2
    | eptr l m sz i off cv h1c hn h =>
      dsimp only
      cases ho:k.hp l with
      | none=>exact⟨.top,.top _⟩
      | some o =>
        cases o with
        | cells cs=>exact⟨.top,.top _⟩
        | dead=>exact⟨.top,.top _⟩
        | raw r=>exact⟨.top,.top _⟩
        | buf c sz get=>exact⟨.top,.top _⟩
        | arr m' sz' get =>
          dsimp only
          by_cases e:m=m'
          ·rw[if_pos e]
           obtain⟨h1,hi,h2⟩:=h _ _ _ ho
           obtain⟨h3,h4⟩:=h2 e
           subst h3
           obtain⟨g1,g2,g3⟩:=hk.obj l _ ho
           cases hB:k.B l with
           | none=>simp only[hB] at g3;omega
           | some bc =>
             obtain⟨b,c⟩:=bc
             simp only[hB] at g3
             obtain⟨hnc,xs,ty,fz,hh,hz,hs,hr⟩:=g3
             simp only[hB,eptrVal] at h4
             subst h4
             obtain⟨q1,q2,q3⟩:=hf b (wt hh) (.inr ⟨l,_,c,ho,hB⟩)
             have hel:∀ (j:Nat) (v:V),(yA (frz n k.hp) ((get i).drop off))[j]?=some v→Pu v∧R k' v (xs.getD (i * sz'+(off+j)) undef):=fun j v hv=>by
              obtain⟨u,hu,hc⟩:=qH hv
              rw[List.getElem?_drop] at hu
              have hru:=hr i _ u (by omega) hu
              rcases hc with⟨rfl,hc⟩ | rfl
              ·exact⟨hc,hru.pure (fun b hb hM=>hf b hb (.inl hM)) hc⟩
              ·exact ih hru
             have hpu:Pu (.cptr (yA (frz n k.hp) ((get i).drop off))):=.cptr _ fun j v hv=>(hel j v hv).1
             refine⟨hpu,.cptr _ b (i * sz'+off) (fun j=>xs.getD (i * sz'+(off+j)) undef) q3 q1 hpu (fun j hj=>?_) fun j v hv=>?_⟩
             ·rw[World.cell_eq_of_heap q2]
              simp only[vG,List.length_drop,g1 i (by omega)] at hj
              have hlt:i * sz'+(off+j) < xs.size:=by
               rw[hs]
               have:(i+1) * sz'≤c * sz':=Nat.mul_le_mul_right _ (by omega)
               rw[Nat.add_mul] at this
               omega
              rw[show i * sz'+off+j=i * sz'+(off+j) by omega]
              exact z6 hh hlt
             ·exact(hel j v hv).2
          ·rw[if_neg e];exact⟨.top,.top _⟩
    | cptr cs b off x hM hb hpu hc h=>exact absurd hpu hp
    | sl0 sz get oa cap=>exact absurd (.sl _ _ _ (fun i j v hi=>by omega)) hp
    | sl n sz get b off cap x hM hb hcap hpu hl hc h=>exact absurd hpu hp
    | msl l off len cv h1c hn h =>
      dsimp only
      cases ho:k.hp l with
      | none=>exact⟨.top,.top _⟩
      | some o =>
        cases o with
        | cells cs=>exact⟨.top,.top _⟩
        | dead=>exact⟨.top,.top _⟩
        | raw r=>exact⟨.top,.top _⟩
        | buf c sz get=>exact⟨.top,.top _⟩
        | arr m sz get =>
          dsimp only
          by_cases e:off+len=m
          ·rw[if_pos e]
           obtain⟨h1,h2⟩:=h _ _ _ ho
           have hcv:=h2 e
           obtain⟨g1,g2,g3⟩:=hk.obj l _ ho
           cases hB:k.B l with
           | none =>
             simp only[hB] at g3
             obtain rfl:len=0:=by omega
             simp only[hB,mslVal] at hcv
             subst hcv
             exact⟨.sl _ _ _ fun i j v hi=>absurd hi (Nat.not_lt_zero _),.sl0 _ _ _ _⟩
           | some bc =>
             obtain⟨b,c⟩:=bc
             simp only[hB] at g3
             obtain⟨hnc,xs,ty,fz,hh,hz,hs,hr⟩:=g3
             simp only[hB,mslVal] at hcv
             subst hcv
             obtain⟨q1,q2,q3⟩:=hf b (wt hh) (.inr ⟨l,_,c,ho,hB⟩)
             have hel:∀ (i j:Nat) (v:V),i < len→(yA (frz n k.hp) (get (off+i)))[j]?=some v→Pu v∧R k' v (xs.getD ((off+i) * sz+j) undef):=fun i j v hi hv=>by
              obtain⟨u,hu,hc⟩:=qH hv
              have hru:=hr (off+i) _ u (by omega) hu
              rcases hc with⟨rfl,hc⟩ | rfl
              ·exact⟨hc,hru.pure (fun b hb hM=>hf b hb (.inl hM)) hc⟩
              ·exact ih hru
             have hpu:Pu (.sl len sz (fun i=>yA (frz n k.hp) (get (off+i)))):=.sl _ _ _ fun i j v hi hv=>(hel i j v hi hv).1
             refine⟨hpu,?_⟩
             refine .sl _ _ _ b (off * sz) (c - off) (fun i j=>xs.getD ((off+i) * sz+j) undef) q3 q1 (by omega) hpu (fun i hi=>vG.trans (g1 _ (by omega))) (fun i j hi hj=>?_) fun i j v hi hv=>?_
             ·rw[World.cell_eq_of_heap q2,show off * sz+i * sz+j=(off+i) * sz+j by rw[Nat.add_mul]]
              have hlt:(off+i) * sz+j < xs.size:=by
               rw[hs]
               have:(off+i+1) * sz≤c * sz:=Nat.mul_le_mul_right _ (by omega)
               rw[Nat.add_mul (off+i)] at this
               omega
              exact z6 hh hlt
             ·exact(hel i j v hi hv).2
          ·rw[if_neg e];exact⟨.top,.top _⟩
    | psl l n' off len cv h1c hn h =>
      dsimp only
      cases ho:k.hp l with
      | none=>exact⟨.top,.top _⟩
      | some o =>
        cases o with
        | cells cs=>exact⟨.top,.top _⟩
        | dead=>exact⟨.top,.top _⟩
        | raw r=>exact⟨.top,.top _⟩
        | buf c sz get=>exact⟨.top,.top _⟩
        | arr m sz get =>
          dsimp only
          by_cases e:n'=m
          ·rw[if_pos e]
           obtain⟨h1,h1',h2⟩:=h _ _ _ ho
           have hcv:=h2 e
           obtain⟨g1,g2,g3⟩:=hk.obj l _ ho
           cases hB:k.B l with
           | none =>
             simp only[hB] at g3
             obtain rfl:len=0:=by omega
             simp only[hB,mslVal] at hcv
             subst hcv
             exact⟨.sl _ _ _ fun i j v hi=>absurd hi (Nat.not_lt_zero _),.sl0 _ _ _ _⟩
           | some bc =>
             obtain⟨b,c⟩:=bc
             simp only[hB] at g3
             obtain⟨hnc,xs,ty,fz,hh,hz,hs,hr⟩:=g3
             simp only[hB,mslVal] at hcv
             subst hcv
             obtain⟨q1,q2,q3⟩:=hf b (wt hh) (.inr ⟨l,_,c,ho,hB⟩)
             have hel:∀ (i j:Nat) (v:V),i < len→(yA (frz n k.hp) (get (off+i)))[j]?=some v→Pu v∧R k' v (xs.getD ((off+i) * sz+j) undef):=fun i j v hi hv=>by
              obtain⟨u,hu,hc⟩:=qH hv
              have hru:=hr (off+i) _ u (by omega) hu
              rcases hc with⟨rfl,hc⟩ | rfl
              ·exact⟨hc,hru.pure (fun b hb hM=>hf b hb (.inl hM)) hc⟩
              ·exact ih hru
             have hpu:Pu (.sl len sz (fun i=>yA (frz n k.hp) (get (off+i)))):=.sl _ _ _ fun i j v hi hv=>(hel i j v hi hv).1
             refine⟨hpu,?_⟩
             refine .sl _ _ _ b (off * sz) (c - off) (fun i j=>xs.getD ((off+i) * sz+j) undef) q3 q1 (by omega) hpu (fun i hi=>vG.trans (g1 _ (by omega))) (fun i j hi hj=>?_) fun i j v hi hv=>?_
             ·rw[World.cell_eq_of_heap q2,show off * sz+i * sz+j=(off+i) * sz+j by rw[Nat.add_mul]]
              have hlt:(off+i) * sz+j < xs.size:=by
               rw[hs]
               have:(off+i+1) * sz≤c * sz:=Nat.mul_le_mul_right _ (by omega)
               rw[Nat.add_mul (off+i)] at this
               omega
              exact z6 hh hlt
             ·exact(hel i j v hi hv).2
          ·rw[if_neg e];exact⟨.top,.top _⟩
    | bsl l off len cv h1c hn h =>
      dsimp only
      cases ho:k.hp l with
      | none=>exact⟨.top,.top _⟩
      | some o =>
        cases o with
        | cells cs=>exact⟨.top,.top _⟩
        | dead=>exact⟨.top,.top _⟩
        | raw r=>exact⟨.top,.top _⟩
        | arr m sz get=>exact⟨.top,.top _⟩
        | buf c sz get =>
          dsimp only
          obtain⟨b0,hB0,hle,hcv⟩:=h _ _ _ ho
          obtain⟨g1,b,xs,ty,fz,hB,hh,hz,hs,hr⟩:=hk.obj l _ ho
          obtain rfl:b0=b:=by rw[hB0] at hB;cases hB;rfl
          subst hcv
          obtain⟨q1,q2,q3⟩:=hf b0 (wt hh) (.inr ⟨l,_,c,ho,hB0⟩)
          have hel:∀ (i j:Nat) (v:V),i < len→(yA (frz n k.hp) (get (off+i)))[j]?=some v→Pu v∧R k' v (xs.getD ((off+i) * sz+j) undef):=fun i j v hi hv=>by
           obtain⟨u,hu,hc⟩:=qH hv
           have hru:=hr (off+i) _ u (by omega) hu
           rcases hc with⟨rfl,hc⟩ | rfl
           ·exact⟨hc,hru.pure (fun b hb hM=>hf b hb (.inl hM)) hc⟩
           ·exact ih hru
          have hpu:Pu (.sl len sz (fun i=>yA (frz n k.hp) (get (off+i)))):=.sl _ _ _ fun i j v hi hv=>(hel i j v hi hv).1
          refine⟨hpu,?_⟩
          refine .sl _ _ _ b0 (off * sz) (c - off) (fun i j=>xs.getD ((off+i) * sz+j) undef) q3 q1 (by omega) hpu (fun i hi=>vG.trans (g1 _ (by omega))) (fun i j hi hj=>?_) fun i j v hi hv=>?_
          ·rw[World.cell_eq_of_heap q2,show off * sz+i * sz+j=(off+i) * sz+j by rw[Nat.add_mul]]
           have hlt:(off+i) * sz+j < xs.size:=by
            rw[hs]
            have:(off+i+1) * sz≤c * sz:=Nat.mul_le_mul_right _ (by omega)
            rw[Nat.add_mul (off+i)] at this
            omega
           exact z6 hh hlt
          ·exact(hel i j v hi hv).2
    | fn f first cap fs cs h1 h2 hf' hc =>
      dsimp only
      refine⟨.fn _ _ _ (fun j v hv=>?_) fun j v hv=>?_,.fn _ _ _ _ _ (by simpa using h1) (by simpa using h2) (fun j v hv=>?_) fun j v hv=>?_⟩
      ·obtain⟨x,hx,rfl⟩:=wm hv;exact(ih (hf' _ _ hx)).1
      ·obtain⟨x,hx,rfl⟩:=wm hv;exact(ih (hc _ _ hx)).1
      ·obtain⟨x,hx,rfl⟩:=wm hv;exact(ih (hf' _ _ hx)).2
      ·obtain⟨x,hx,rfl⟩:=wm hv;exact(ih (hc _ _ hx)).2
    | agg cs xs hs h =>
      dsimp only
      refine⟨.agg _ fun j v hv=>?_,.agg _ _ (by simpa using hs) fun j v hv=>?_⟩
      ·obtain⟨x,hx,rfl⟩:=wm hv;exact(ih (h _ _ hx)).1
      ·obtain⟨x,hx,rfl⟩:=wm hv;exact(ih (h _ _ hx)).2
    | tup cs xs hs h =>
      dsimp only
      refine⟨.tup _ fun j v hv=>?_,.tup _ _ (by simpa using hs) fun j v hv=>?_⟩
      ·obtain⟨x,hx,rfl⟩:=wm hv;exact(ih (h _ _ hx)).1
      ·obtain⟨x,hx,rfl⟩:=wm hv;exact(ih (h _ _ hx)).2
def updH (hp:Heap)(l:Loc)(o:AObj):Heap:=fun l'=>if l'=l then some o else hp l'
def yl (B:Loc→Option (Nat×Nat))(l:Loc)(x:Option (Nat×Nat)):Loc→Option (Nat×Nat):=fun l'=>if l'=l then x else B l'
theorem zd (hp:Heap)(l:Loc)(o:AObj):updH hp l o l=some o:=by simp[updH]
theorem zc {hp:Heap}{l l':Loc}{o:AObj}(h:l'≠l):updH hp l o l'=hp l':=by simp[updH,h]
theorem zR (B:Loc→Option (Nat×Nat))(l:Loc)(x:Option (Nat×Nat)):yl B l x l=x:=by simp[yl]
theorem vx {B:Loc→Option (Nat×Nat)}{l l':Loc}{x:Option (Nat×Nat)}(h:l'≠l):yl B l x l'=B l':=by simp[yl,h]
theorem ye {ck:Nat}{hp:Heap}{l:Loc}{o:AObj}{l':Loc}(h:zjB ck hp l'):zjB ck (updH hp l o) l':=by
 rcases h with h | ⟨h,h2⟩
 ·exact .inl h
 ·refine .inr ⟨h,?_⟩
  unfold updH;split <;> simp_all
theorem wR {w:World}{o:Obj}{b:Nat}(h:b < w.heap.size):(w.alloc o).heap[b]?=w.heap[b]?:=RowKit.Below.heap_alloc w o b h
theorem jT (w:World)(o:Obj):(w.alloc o).heap[w.heap.size]?=some o:=World.alloc_heap_new w o
theorem ObjOk.step {k k':K}(st:Step k k')(hk:HeapOk k){l:Loc}{o:AObj}(ho:k.hp l=some o)(ho':k'.hp l=some o)(hB:k'.B l=k.B l)
 (hh:∀ b c,k.B l=some (b,c)→k'.w.heap[b]?=k.w.heap[b]?):ObjOk k' l o:=by
 have h:=hk.obj l o ho
 cases o with
 | cells cs =>
   obtain⟨b,c,xs,ty,fz,h1,h2,h3,h4,h5⟩:=h
   exact⟨b,c,xs,ty,fz,hB.trans h1,(hh b c h1).trans h2,h3,h4,fun j v hv=>(h5 j v hv).step st (fun b hb=>(hk.own b hb).1)⟩
 | dead=>exact hB.trans h
 | raw r=>exact⟨hB.trans h.1,(hh _ _ h.1).trans h.2⟩
 | buf c sz get =>
   obtain⟨g1,b,xs,ty,fz,h1,h2,h3,h4,h5⟩:=h
   exact⟨g1,b,xs,ty,fz,hB.trans h1,(hh b c h1).trans h2,h3,h4,fun i j v hi hv=>(h5 i j v hi hv).step st (fun b hb=>(hk.own b hb).1)⟩
 | arr n sz get =>
   obtain⟨h1,h2,h3⟩:=h
   refine⟨h1,h2,?_⟩
   rw[hB]
   cases hq:k.B l with
   | none=>simpa [hq] using h3
   | some bc =>
     obtain⟨b,c⟩:=bc
     simp only[hq] at h3
     obtain⟨g1,xs,ty,fz,g2,g3,g4,g5⟩:=h3
     exact⟨g1,xs,ty,fz,(hh b c hq).trans g2,g3,g4,fun i j v hi hv=>(g5 i j v hi hv).step st (fun b hb=>(hk.own b hb).1)⟩
theorem zeo {w:World}{M:Nat→Prop}{B:Loc→Option (Nat×Nat)}{hp:Heap}{ck:Nat}(hk:HeapOk (mkK w M B hp ck)){l:Loc}(hl:hp l=none)(hck:l.1=ck)
 (xs:Array Value) (ty:TypeId) (cap:Nat) (o:AObj)
 (ho:∀ k':K,k'.B l=some (w.heap.size,cap)→k'.w.heap[w.heap.size]?=some (.cells xs ty (0,0))→Step (mkK w M B hp ck) k'→ObjOk k' l o) :
 let k':=mkK (w.alloc (.cells xs ty)) (fun b=>M b∨b=w.heap.size) (yl B l (some (w.heap.size,cap))) (updH hp l o) ck
 Step (mkK w M B hp ck) k'∧HeapOk k':=by
 intro k'
 have hnm:¬ (mkK w M B hp ck).nm l:=by
  intro h;rcases h with h | ⟨_,h⟩
  ·omega
  ·simp[hl] at h
 have hsz:(w.alloc (.cells xs ty)).heap.size=w.heap.size+1:=World.size_alloc w _
 have hold:∀ l':Loc,l'≠l→k'.hp l'=hp l'∧k'.B l'=B l':=fun l' h=>⟨zc h,vx h⟩
 have st:Step (mkK w M B hp ck) k':=by
  refine⟨rfl,rfl,rfl,by show w.heap.size≤(w.alloc _).heap.size;omega,fun b hb _=>wR hb,?_,?_,fun b _ _ h=>.inl h,fun l' h=>ye h,?_⟩
  ·rintro b ⟨l',o',c',h1,h2⟩
   by_cases e:l'=l
   ·subst e
    have:yl B l' (some (w.heap.size,cap)) l'=some (b,c'):=h2
    rw[zR] at this
    simp only[Option.some.injEq,Prod.mk.injEq] at this
    exact .inr (by show w.heap.size≤b;omega)
   ·have h3:=(hold l' e)
    rw[h3.1] at h1;rw[h3.2] at h2
    exact .inl ⟨l',o',c',h1,h2⟩
  ·intro b hb hM
   rcases hM with h | h
   ·exact h
   ·have:b < w.heap.size:=hb
    omega
  ·intro l' hl' o' ho'
   have e:l'≠l:=fun e=>hnm (e ▸ hl')
   have h3:=hold l' e
   rw[h3.1] at ho'
   exact(Step.refl (mkK w M B hp ck)).names l' hl' o' ho' |> fun q=>by
    cases o' with
    | dead=>trivial
    | raw r=>trivial
    | cells cs=>exact⟨q.1,h3.2⟩
    | buf c sz get=>exact⟨q.1,h3.2⟩
    | arr n sz get=>obtain⟨n0,g0,q1,q2,q3⟩:=q;exact⟨n0,g0,q1,q2,fun _=>h3.2⟩
 refine⟨st,?_,?_,?_,?_,?_⟩
 ·intro b hb
  rcases hb with h | h
  ·have:=hk.lt b h
   show b < (w.alloc _).heap.size
   have h2:b < w.heap.size:=this
   omega
  ·show b < (w.alloc _).heap.size
   omega
 ·rintro b ⟨l',o',c',h1,h2⟩
  by_cases e:l'=l
  ·subst e
   have:yl B l' (some (w.heap.size,cap)) l'=some (b,c'):=h2
   rw[zR] at this
   simp only[Option.some.injEq,Prod.mk.injEq] at this
   exact⟨.inr this.1.symm,by show b < (w.alloc _).heap.size;omega⟩
  ·have h3:=hold l' e
   rw[h3.1] at h1;rw[h3.2] at h2
   have:=hk.own b ⟨l',o',c',h1,h2⟩
   exact⟨.inl this.1,by have h2:b < w.heap.size:=this.2;show b < (w.alloc _).heap.size;omega⟩
 ·intro l' o' h1
  by_cases e:l'=l
  ·subst e
   exact .inr ⟨hck,by show (updH hp l' o l').isSome=true;rw[zd];rfl⟩
  ·rw[(hold l' e).1] at h1
   exact ye (hk.nm l' o' h1)
 ·intro l1 l2 b c c' o1 o2 h1 h2 h3 h4
  by_cases e1:l1=l
  ·by_cases e2:l2=l
   ·rw[e1,e2]
   ·subst e1
    have q:yl B l1 (some (w.heap.size,cap)) l1=some (b,c):=h3
    rw[zR] at q
    simp only[Option.some.injEq,Prod.mk.injEq] at q
    rw[(hold l2 e2).1] at h2;rw[(hold l2 e2).2] at h4
    have h5:b < w.heap.size:=(hk.own b ⟨l2,o2,c',h2,h4⟩).2
    omega
  ·by_cases e2:l2=l
   ·subst e2
    have q:yl B l2 (some (w.heap.size,cap)) l2=some (b,c'):=h4
    rw[zR] at q
    simp only[Option.some.injEq,Prod.mk.injEq] at q
    rw[(hold l1 e1).1] at h1;rw[(hold l1 e1).2] at h3
    have h5:b < w.heap.size:=(hk.own b ⟨l1,o1,c,h1,h3⟩).2
    omega
   ·rw[(hold l1 e1).1] at h1;rw[(hold l1 e1).2] at h3
    rw[(hold l2 e2).1] at h2;rw[(hold l2 e2).2] at h4
    exact hk.inj l1 l2 b c c' o1 o2 h1 h2 h3 h4
 ·intro l' o' h1
  by_cases e:l'=l
  ·subst e
   have q:updH hp l' o l'=some o':=h1
   rw[zd] at q
   cases q
   exact ho k' (zR _ _ _) (jT w _) st
  ·have h3:=hold l' e
   rw[h3.1] at h1
   refine ObjOk.step st hk h1 (h3.1.trans h1) h3.2 fun b c hb=>?_
   exact wR (hk.own b ⟨l',o',c,h1,hb⟩).2
theorem vi {w:World}{M:Nat→Prop}{B:Loc→Option (Nat×Nat)}{hp:Heap}{ck:Nat}(hk:HeapOk (mkK w M B hp ck)){l:Loc}{o o':AObj}(hl:hp l=some o)
 {b c:Nat} (hb:B l=some (b,c)) (hkind:compat (some o) (some (b,c)) (some (b,c)) o')
 {w':World} (hw:w'.os=w.os∧w'.tape=w.tape∧w'.output=w.output∧w'.heap.size=w.heap.size) (hother:∀ x,x≠b→w'.heap[x]?=w.heap[x]?)
 (ho:∀ k':K,k'.w=w'→k'.B l=some (b,c)→Step (mkK w M B hp ck) k'→ObjOk k' l o') :
 let k':=mkK w' M B (updH hp l o') ck
 Step (mkK w M B hp ck) k'∧HeapOk k':=by
 intro k'
 have hold:∀ l':Loc,l'≠l→k'.hp l'=hp l':=fun l' h=>zc h
 have hown:∀ x,k'.owned x→(mkK w M B hp ck).owned x:=by
  rintro x ⟨l',o1,c1,h1,h2⟩
  by_cases e:l'=l
  ·subst e;exact⟨l',o,c1,hl,h2⟩
  ·rw[hold l' e] at h1;exact⟨l',o1,c1,h1,h2⟩
 have st:Step (mkK w M B hp ck) k':=by
  refine⟨hw.1,hw.2.1,hw.2.2.1,Nat.le_of_eq hw.2.2.2.symm,fun x hx hno=>hother x fun e=>hno ⟨l,o,c,hl,e ▸ hb⟩,fun x hx=>.inl (hown x hx),fun _ _ h=>h,fun _ _ _ h=>h,fun l' h=>ye h,?_⟩
  intro l' hl' o1 ho1
  by_cases e:l'=l
  ·subst e
   have q:updH hp l' o' l'=some o1:=ho1
   rw[zd] at q
   cases q
   show compat (hp l') (B l') (B l') o'
   rw[hl,hb]
   exact hkind
  ·rw[hold l' e] at ho1
   have:=(Step.refl (mkK w M B hp ck)).names l' hl' o1 ho1
   exact this
 refine⟨st,fun x hx=>?_,fun x hx=>?_,fun l' o1 h1=>?_,?_,?_⟩
 ·have:=hk.lt x hx
  show x < w'.heap.size
  rw[hw.2.2.2];exact this
 ·have:=hk.own x (hown x hx)
  exact⟨this.1,by show x < w'.heap.size;rw[hw.2.2.2];exact this.2⟩
 ·by_cases e:l'=l
  ·subst e;exact ye (hk.nm l' o hl)
  ·rw[hold l' e] at h1;exact ye (hk.nm l' o1 h1)
 ·intro l1 l2 x c1 c2 o1 o2 h1 h2 h3 h4
  have g:∀ l' o1,k'.hp l'=some o1→∃ o2,hp l'=some o2:=by
   intro l' o1 h
   by_cases e:l'=l
   ·exact⟨o,e ▸ hl⟩
   ·rw[hold l' e] at h;exact⟨o1,h⟩
  obtain⟨p1,q1⟩:=g l1 o1 h1
  obtain⟨p2,q2⟩:=g l2 o2 h2
  exact hk.inj l1 l2 x c1 c2 p1 p2 q1 q2 h3 h4
 ·intro l' o1 h1
  by_cases e:l'=l
  ·subst e
   have q:updH hp l' o' l'=some o1:=h1
   rw[zd] at q
   cases q
   exact ho k' rfl hb st
  ·have h3:=hold l' e
   rw[h3] at h1
   refine ObjOk.step st hk h1 (h3.trans h1) rfl fun x c1 hx=>hother x fun ex=>?_
   subst ex
   exact e (hk.inj l' l x c1 c o1 o h1 hl hx hb)
def tsz (P:Program)(t:TypeId):Nat:=((P.info? t).map (·.size)).getD 0
def isRowD:TypeDesc→Bool
 | .struct _ | .array _ _=>true
 | _=>false
def tagg (P:Program)(t:TypeId):Option Bool:=(P.underlying t).map isRowD
theorem yy {P:Program}{t:TypeId}{d:TypeDesc}(h:P.underlying t=some d):∃ i,P.info? t=some i:=by
 unfold Program.underlying at h
 cases q:P.info? t with
 | none=>simp[q] at h
 | some i=>exact⟨i,rfl⟩
theorem zj9 {P:Program}{t:TypeId}{i:TypeInfo}(h:P.info? t=some i)(w:World):(sizeOf t).run P w=.ok i.size w:=by
 simp[sizeOf,typeInfo,h]
theorem tsz_of {P:Program}{t:TypeId}{i:TypeInfo}(h:P.info? t=some i):tsz P t=i.size:=by simp[tsz,h]
theorem zD {P:Program}{t:TypeId}{b:Bool}(h:tagg P t=some b)(w:World):(sizeOf t).run P w=.ok (tsz P t) w:=by
 unfold tagg at h
 cases q:P.underlying t with
 | none=>simp[q] at h
 | some d =>
   obtain⟨i,hi⟩:=yy q
   rw[zj9 hi,tsz_of hi]
theorem kD {P:Program}{t:TypeId}{b:Bool}(h:tagg P t=some b)(w:World):(isAgg t).run P w=.ok b w:=by
 unfold tagg at h
 cases q:P.underlying t with
 | none=>simp[q] at h
 | some d =>
   simp only[q,Option.map_some,Option.some.injEq] at h
   subst h
   unfold isAgg
   simp only[Sem.run_bind,run_underlying q,Result.andThen_ok]
   cases d <;> rfl
def ve (hp:Heap):V→Option (List V)
 | .ptr l off=>match hp l with
   | some (.cells cs)=>some (cs.drop off)
   | _=>none
 | .cptr cs=>some cs
 | .eptr l m _ i off=>match hp l with
   | some (.arr m' _ get)=>if m=m' then some ((get i).drop off) else none
   | _=>none
 | _=>none
theorem zco {k:K}(hk:HeapOk k){v:V}{cv:Value}{cs:List V}(h:R k v cv)(hc:ve k.hp v=some cs) :
 ∃ (b off:Nat) (x:Nat→Value),cv=.pointer (some ⟨b,off,none⟩)∧(∀ j,j < cs.length→k.w.cell? ⟨b,off+j,none⟩=some (x j))∧∀ (j:Nat) (v:V),cs[j]?=some v→R k v (x j):=by
 cases h with
 | ptr l off cv h1c hn h =>
   simp only[ve] at hc
   cases ho:k.hp l with
   | none=>simp[ho] at hc
   | some o =>
     cases o with
     | arr m sz get=>simp[ho] at hc
     | dead=>simp[ho] at hc
     | raw r=>simp[ho] at hc
     | buf _ _ _=>simp[ho] at hc
     | cells cs' =>
       simp only[ho,Option.some.injEq] at hc
       subst hc
       obtain⟨b,c,xs,ty,fz,hB,hh,hz,hs,hr⟩:=hk.obj l _ ho
       have hcv:=h cs' ho
       simp only[hB,eptrVal] at hcv
       refine⟨b,off,fun j=>xs.getD (off+j) undef,hcv,fun j hj=>?_,fun j v hv=>?_⟩
       ·simp only[List.length_drop] at hj
        exact z6 hh (by omega)
       ·rw[List.getElem?_drop] at hv
        exact hr _ _ hv
 | cptr cs' b off x hM hb hpu hcx h =>
   simp only[ve,Option.some.injEq] at hc
   subst hc
   exact⟨b,off,x,rfl,hcx,h⟩
 | eptr l m sz i off cv h1c hn h =>
   simp only[ve] at hc
   cases ho:k.hp l with
   | none=>simp[ho] at hc
   | some o =>
     cases o with
     | cells cs'=>simp[ho] at hc
     | dead=>simp[ho] at hc
     | raw r=>simp[ho] at hc
     | buf _ _ _=>simp[ho] at hc
     | arr m' sz' get =>
       simp only[ho] at hc
       by_cases e:m=m'
       ·simp only[e,if_true,Option.some.injEq] at hc
        subst hc
        obtain⟨h1,hi,h2⟩:=h _ _ _ ho
        obtain⟨h3,h4⟩:=h2 e
        subst h3
        obtain⟨g1,g2,g3⟩:=hk.obj l _ ho
        cases hB:k.B l with
        | none=>simp only[hB] at g3;omega
        | some bc =>
          obtain⟨b,c⟩:=bc
          simp only[hB] at g3
          obtain⟨hnc,xs,ty,fz,hh,hz,hs,hr⟩:=g3
          simp only[hB,eptrVal] at h4
          refine⟨b,i * sz'+off,fun j=>xs.getD (i * sz'+(off+j)) undef,h4,fun j hj=>?_,fun j v hv=>?_⟩
          ·simp only[List.length_drop,g1 i (by omega)] at hj
           have hlt:i * sz'+(off+j) < xs.size:=by
            rw[hs]
            have:(i+1) * sz'≤c * sz':=Nat.mul_le_mul_right _ (by omega)
            rw[Nat.add_mul] at this
            omega
           rw[show i * sz'+off+j=i * sz'+(off+j) by omega]
           exact z6 hh hlt
          ·rw[List.getElem?_drop] at hv
           exact hr i _ v (by omega) hv
       ·simp[e] at hc
 | _=>simp[ve] at hc
def takeT (P:Program)(t:TypeId)(cs:List V):Option V :=
 match tagg P t with
 | some true=>if tsz P t≤cs.length then some (.agg (cs.take (tsz P t))) else none
 | some false=>cs.head?
 | none=>none
def ld (P:Program)(hp:Heap)(t:TypeId)(v:V):Option V :=
 match ve hp v with
 | some cs=>takeT P t cs
 | none=>none
theorem w5 (b o n:Nat):(⟨b,o,none⟩:Addr).add n=⟨b,o+n,none⟩:=by unfold Addr.add;split <;> simp_all
theorem zjJ {P:Program}{k:K}{t:TypeId}{cs:List V}{u:V}{b off:Nat}{x:Nat→Value}(ht:takeT P t cs=some u)
 (hc:∀ j,j < cs.length→k.w.cell? ⟨b,off+j,none⟩=some (x j)) (hr:∀ (j:Nat) (v:V),cs[j]?=some v→R k v (x j)) :
 ∃ y,(loadVar t ⟨b,off,none⟩).run P k.w=.ok y k.w∧R k u y:=by
 unfold takeT at ht
 cases hg:tagg P t with
 | none=>simp[hg] at ht
 | some g =>
   cases g with
   | true =>
     simp only[hg] at ht
     by_cases hle:tsz P t≤cs.length
     ·simp only[hle,if_true,Option.some.injEq] at ht
      subst ht
      refine⟨.agg ((List.range (tsz P t)).map x).toArray,?_,?_⟩
      ·have:=run_loadCells (P:=P) k.w ⟨b,off,none⟩ (tsz P t) x (fun j hj=>by rw[w5];exact hc j (by omega))
       simp[loadVar,kD hg,zD hg,this]
      ·refine .agg _ _ (by simp;omega) fun j v hv=>?_
       have hj:j < tsz P t:=by
        have:=(List.getElem?_eq_some_iff.1 hv).1
        simp at this;omega
       rw[List.getElem?_take_of_lt hj] at hv
       simp only[Array.getD_eq_getD_getElem?,List.getElem?_toArray,List.getElem?_map,List.getElem?_range hj,Option.map_some,Option.getD_some]
       exact hr j v hv
     ·simp[hle] at ht
   | false =>
     simp only[hg] at ht
     cases cs with
     | nil=>simp at ht
     | cons c r =>
       simp only[List.head?_cons,Option.some.injEq] at ht
       subst ht
       have h0:=hc 0 (by simp)
       refine⟨x 0,?_,hr 0 c (by simp)⟩
       simp only[Nat.add_zero] at h0
       simp[loadVar,kD hg,h0]
theorem ld_ok {P:Program}{k:K}(hk:HeapOk k){t:TypeId}{v u:V}{cv:Value}(h:R k v cv)(hl:ld P k.hp t v=some u) :
 ∃ (a:Addr) (y:Value),cv=.pointer (some a)∧(loadVar t a).run P k.w=.ok y k.w∧R k u y:=by
 unfold ld at hl
 cases hc:ve k.hp v with
 | none=>simp[hc] at hl
 | some cs =>
   simp only[hc] at hl
   obtain⟨b,off,x,hcv,h1,h2⟩:=zco hk h hc
   obtain⟨y,h3,h4⟩:=zjJ hl h1 h2
   exact⟨_,y,hcv,h3,h4⟩
def qa:List V→Nat→List V→List V
 | cs,_,[]=>cs
 | cs,o,v::vs=>qa (cs.set o v) (o+1) vs
def yc:Array Value→Nat→List Value→Array Value
 | xs,_,[]=>xs
 | xs,o,v::vs=>yc (xs.setIfInBounds o v) (o+1) vs
theorem yW:∀ (vs cs:List V) (o:Nat),(qa cs o vs).length=cs.length
 | [],_,_=>rfl
 | v::vs,cs,o=>by rw[qa,yW vs];simp
theorem yQ:∀ (vs:List Value) (xs:Array Value) (o:Nat),(yc xs o vs).size=xs.size
 | [],_,_=>rfl
 | v::vs,xs,o=>by rw[yc,yQ vs];simp
theorem vb:∀ (vs:List Value) (xs:Array Value) (o j:Nat),(j < o∨o+vs.length≤j)→(yc xs o vs).getD j undef=xs.getD j undef
 | [],_,_,_,_=>rfl
 | v::vs,xs,o,j,h=>by
   rw[yc,vb vs _ (o+1) j (by simp at h;omega)]
   simp only[Array.getD_eq_getD_getElem?,Array.getElem?_setIfInBounds]
   rw[if_neg (by simp at h;omega)]
theorem zeG {w:World}{b o:Nat}{v:Value}{xs:Array Value}{ty:TypeId}{fz:Nat×Nat}(h:w.heap[b]?=some (.cells xs ty fz)) :
 (w.setCell ⟨b,o,none⟩ v).heap[b]?=some (.cells (xs.setIfInBounds o v) ty fz):=by
 simp[World.setCell,Array.getElem?_modify,h]
theorem yF:∀ (vs:List Value) {w:World} {b o:Nat} {xs:Array Value} {ty:TypeId} {fz:Nat×Nat},w.heap[b]?=some (.cells xs ty fz) →
 (w.setCells b o vs).heap[b]?=some (.cells (yc xs o vs) ty fz)
 | [],_,_,_,_,_,_,h=>h
 | _::vs,_,_,_,_,_,_,h=>yF vs (zeG h)
theorem yu:∀ (vs:List Value) {w:World} {b o x:Nat},x≠b→(w.setCells b o vs).heap[x]?=w.heap[x]?
 | [],_,_,_,_,_=>rfl
 | v::vs,w,b,o,x,h=>by
   rw[World.setCells,yu vs h]
   exact RowKit.Below.heap_setCell w ⟨b,o,none⟩ v x h
theorem yE:∀ (vs:List Value) {w:World} {b o:Nat},(w.setCells b o vs).os=w.os∧(w.setCells b o vs).tape=w.tape∧(w.setCells b o vs).output=w.output∧(w.setCells b o vs).heap.size=w.heap.size
 | [],_,_,_=>⟨rfl,rfl,rfl,rfl⟩
 | v::vs,w,b,o=>by
   have:=yE vs (w:=w.setCell ⟨b,o,none⟩ v) (b:=b) (o:=o+1)
   refine⟨this.1.trans rfl,this.2.1.trans rfl,this.2.2.1.trans rfl,this.2.2.2.trans (by simp[World.setCell])⟩
theorem zds {k:K}:∀ (vs:List Value) (new cs:List V) (xs:Array Value) (o:Nat),vs.length=new.length→(∀ (j:Nat) (v:V),new[j]?=some v→R k v (vs.getD j undef)) →
 xs.size=cs.length→(∀ (j:Nat) (v:V),cs[j]?=some v→R k v (xs.getD j undef)) →
 ∀ (j:Nat) (v:V),(qa cs o new)[j]?=some v→R k v ((yc xs o vs).getD j undef)
 | [],[],cs,xs,o,_,_,_,h,j,v,hv=>h j v hv
 | [],_::_,_,_,_,hl,_,_,_,_,_,_=>by simp at hl
 | _::_,[],_,_,_,hl,_,_,_,_,_,_=>by simp at hl
 | x::vs,u::new,cs,xs,o,hl,hn,hs,h,j,v,hv=>by
   rw[qa] at hv
   rw[yc]
   refine zds vs new (cs.set o u) (xs.setIfInBounds o x) (o+1) (by simpa using hl) (fun i w hw=>by simpa using hn (i+1) w (by simpa using hw)) (by simpa using hs) (fun i w hw=>?_) j v hv
   simp only[List.getElem?_set] at hw
   simp only[Array.getD_eq_getD_getElem?,Array.getElem?_setIfInBounds]
   by_cases e:o=i
   ·subst e
    by_cases q:o < cs.length
    ·simp only[q,if_true,Option.some.injEq] at hw
     subst hw
     simp only[hs ▸ q,if_true,Option.getD_some]
     simpa using hn 0 u (by simp)
    ·simp[q] at hw
   ·simp only[e,if_false] at hw ⊢
    simpa [Array.getD_eq_getD_getElem?] using h i w hw
def jM:V→Bool
 | .top | .agg _ | .tup _=>false
 | _=>true
def cellsV:V→Option (List V)
 | .agg cs=>some cs
 | .top | .tup _=>none
 | v=>some [v]
theorem zfV {cv:Value}(h:cv.oneCell'=true):cv.cells=#[cv]:=by cases cv <;> first | rfl | (simp[Value.oneCell'] at h)
theorem zlx {k:K}{v:V}{cv:Value}(h:R k v cv)(ho:jM v=true):cv.oneCell'=true:=by
 cases h <;> first | rfl | assumption | (simp[jM] at ho;done)
theorem vH {k:K}{v:V}{cv:Value}{cs:List V}(h:R k v cv)(hc:cellsV v=some cs) :
 cv.cells.size=cs.length∧∀ (j:Nat) (u:V),cs[j]?=some u→R k u (cv.cells.getD j undef):=by
 by_cases ho:jM v=true
 ·have h1:=zlx h ho
  have:cs=[v]:=by cases v <;> simp_all [cellsV,jM]
  subst this
  rw[zfV h1]
  refine⟨rfl,fun j u hu=>?_⟩
  cases j with
  | zero=>simp only[List.getElem?_cons_zero,Option.some.injEq] at hu;subst hu;exact h
  | succ j=>simp at hu
 ·cases h with
  | agg cs' xs hs h =>
    simp only[cellsV,Option.some.injEq] at hc
    subst hc
    exact⟨hs,h⟩
  | top _=>simp[cellsV] at hc
  | tup cs' xs hs h=>simp[cellsV] at hc
  | _=>simp[jM] at ho
def sto (P:Program)(hp:Heap)(t:TypeId)(a v:V):Option (Prop×Heap) :=
 match cellsV v with
 | none=>none
 | some new=>if new.length=tsz P t∧new.all jM=true∧(tagg P t).isSome=true then
  match a with
  | .ptr l off=>match hp l with
    | some (.cells cs)=>if off+new.length≤cs.length then some (True,updH hp l (.cells (qa cs off new))) else none
    | _=>none
  | .eptr l m sz i off=>match hp l with
    | some (.arr m' sz' get)=>if m=m' then some ((∀ u∈new,Pu u)∧off+new.length≤sz,updH hp l (.arr m' sz' (fun i'=>if i'=i then qa (get i) off new else get i'))) else none
    | _=>none
  | _=>none
   else none
theorem yi {l:List V}{j:Nat}{v:V}(h:l[j]?=some v):v∈l:=List.mem_iff_getElem?.2 ⟨j,h⟩
theorem v8 {w:World}{b o:Nat}{xs:Array Value}{ty:TypeId}{fz:Nat×Nat}(h:w.heap[b]?=some (.cells xs ty fz))(hz:∀ o:Nat,¬ (fz.1≤o∧o < fz.2)) :
 w.frozen? ⟨b,o,none⟩=false:=by
 obtain⟨lo,hi⟩:=fz
 have:=hz o
 simp only[World.frozen?,h]
 simp only at this
 simp only[Bool.and_eq_false_iff,decide_eq_false_iff_not]
 omega
theorem zbx {P:Program}{w:World}{t:TypeId}{b off:Nat}{cv:Value}{xs:Array Value}{ty:TypeId}{fz:Nat×Nat}(hg:(tagg P t).isSome=true)(hs:cv.cells.size=tsz P t)
 (hh:w.heap[b]?=some (.cells xs ty fz)) (hz:∀ o:Nat,¬ (fz.1≤o∧o < fz.2)) (hle:off+cv.cells.size≤xs.size) (h1:∀ v∈cv.cells.toList,v.oneCell'=true) :
 (storeVar t ⟨b,off,none⟩ cv).run P w=.ok () (w.setCells b off cv.cells.toList):=by
 obtain⟨g,hg⟩:=Option.isSome_iff_exists.1 hg
 have hrun:=run_storeCells_cells (P:=P) b off cv.cells.toList 0 w (fun j hj=>by
  rw[Nat.add_zero,z6 hh (by simp at hj;omega)];rfl) (fun j hj=>v8 hh hz) h1
 rw[Nat.add_zero] at hrun
 simp[storeVar,zD hg,hs,hrun]
theorem sto_ok {P:Program}{w:World}{M:Nat→Prop}{B:Loc→Option (Nat×Nat)}{hp:Heap}{ck:Nat}(hk:HeapOk (mkK w M B hp ck)){t:TypeId}{a v:V}{ca cv:Value}
 (ha:R (mkK w M B hp ck) a ca) (hv:R (mkK w M B hp ck) v cv) {pre:Prop} {hp':Heap} (h:sto P hp t a v=some (pre,hp')) (hpre:pre) :
 ∃ (x:Addr) (w':World),ca=.pointer (some x)∧(storeVar t x cv).run P w=.ok () w'∧Step (mkK w M B hp ck) (mkK w' M B hp' ck)∧HeapOk (mkK w' M B hp' ck):=by
 unfold sto at h
 cases hc:cellsV v with
 | none=>simp[hc] at h
 | some new =>
   simp only[hc] at h
   obtain⟨hsz,hr⟩:=vH hv hc
   by_cases hcond:new.length=tsz P t∧new.all jM=true∧(tagg P t).isSome=true
   ·rw[if_pos hcond] at h
    obtain⟨hlen,hone,hg⟩:=hcond
    have hone':∀ x∈cv.cells.toList,x.oneCell'=true:=by
     intro x hx
     obtain⟨j,hj⟩:=List.mem_iff_getElem?.1 hx
     have hj2:cv.cells[j]?=some x:=by simpa using hj
     have hjl:j < new.length:=by
      have:=(Array.getElem?_eq_some_iff.1 hj2).1
      omega
     have h1:new[j]?=some new[j]:=List.getElem?_eq_getElem hjl
     have h2:=hr j _ h1
     rw[getD_some hj2] at h2
     exact zlx h2 (List.all_eq_true.1 hone _ (List.getElem_mem hjl))
    cases a with
    | ptr l off =>
      simp only at h
      cases ho:hp l with
      | none=>simp[ho] at h
      | some o =>
        cases o with
        | arr m sz get=>simp[ho] at h
        | dead=>simp[ho] at h
        | raw r=>simp[ho] at h
        | buf _ _ _=>simp[ho] at h
        | cells cs =>
          simp only[ho] at h
          by_cases hle:off+new.length≤cs.length
          ·rw[if_pos hle] at h
           simp only[Option.some.injEq,Prod.mk.injEq] at h
           obtain⟨rfl,rfl⟩:=h
           obtain⟨b,c,xs,ty,fz,hB,hh,hz,hs,hrr⟩:=hk.obj l _ ho
           cases ha with
           | ptr _ _ _ h1c hn h =>
             have hca:=h cs ho
             have hB':B l=some (b,c):=hB
             have hB2:(mkK w M B hp ck).B l=some (b,c):=hB
             simp only[hB2,eptrVal] at hca
             refine⟨_,_,hca,zbx hg (by omega) hh hz (by omega) hone',?_⟩
             refine vi hk ho hB' (o':=.cells (qa cs off new)) ⟨⟨cs,rfl⟩,rfl⟩ (yE _) (fun x hx=>yu _ hx) fun k' hw hBl st=>?_
             refine⟨b,c,yc xs off cv.cells.toList,ty,fz,hBl,by rw[hw];exact yF _ hh,hz,by rw[yQ,yW];exact hs,?_⟩
             refine zds cv.cells.toList new cs xs off (by simp;omega) (fun j u hu=>?_) hs (fun j u hu=>(hrr j u hu).step st fun b hb=>(hk.own b hb).1)
             have:=(hr j u hu).step st fun b hb=>(hk.own b hb).1
             simpa [List.getD_eq_getElem?_getD,Array.getD_eq_getD_getElem?] using this
          ·simp[hle] at h
    | eptr l m sz i off =>
      simp only at h
      cases ho:hp l with
      | none=>simp[ho] at h
      | some o =>
        cases o with
        | cells cs=>simp[ho] at h
        | dead=>simp[ho] at h
        | raw r=>simp[ho] at h
        | buf _ _ _=>simp[ho] at h
        | arr m' sz' get =>
          simp only[ho] at h
          by_cases e:m=m'
          ·subst e
           simp only[if_true,Option.some.injEq,Prod.mk.injEq] at h
           obtain⟨rfl,rfl⟩:=h
           obtain⟨hpu,hoff⟩:=hpre
           obtain⟨g1,g2,g3⟩:=hk.obj l _ ho
           cases ha with
           | eptr _ _ _ _ _ _ h1c hn h =>
             obtain⟨h1,hi,h2⟩:=h _ _ _ ho
             obtain⟨h3,h4⟩:=h2 rfl
             subst h3
             cases hB:(mkK w M B hp ck).B l with
             | none=>simp only[hB] at g3;omega
             | some bc =>
               obtain⟨b,c⟩:=bc
               have hB':B l=some (b,c):=hB
               simp only[hB] at g3
               obtain⟨hnc,xs,ty,fz,hh,hz,hs,hrr⟩:=g3
               simp only[hB,eptrVal] at h4
               have hrow:(i+1) * sz'≤c * sz':=Nat.mul_le_mul_right _ (by omega)
               rw[Nat.add_mul] at hrow
               have hgi:(get i).length=sz':=g1 i hi
               refine⟨_,_,h4,zbx hg (by omega) hh hz (by omega) hone',?_⟩
               refine vi hk ho hB' (o':=.arr m sz' (fun i'=>if i'=i then qa (get i) off new else get i')) ⟨m,get,rfl,Nat.le_refl _,fun _=>rfl⟩ (yE _) (fun x hx=>yu _ hx) fun k' hw hBl st=>?_
               have hst:∀ {u:V} {x:Value},R (mkK w M B hp ck) u x→R k' u x:=fun q=>q.step st fun b hb=>(hk.own b hb).1
               refine⟨fun i' hi'=>?_,trivial,?_⟩
               ·by_cases q:i'=i
                ·simp only[q,if_true];rw[yW];exact hgi
                ·simp only[q,if_false];exact g1 i' hi'
               ·rw[hBl]
                refine⟨hnc,yc xs (i * sz'+off) cv.cells.toList,ty,fz,by rw[hw];exact yF _ hh,hz,by rw[yQ];exact hs,fun i' j u hi' hu=>?_⟩
                by_cases q:i'=i
                ·subst q
                 simp only[if_true] at hu
                 have hj:j < sz':=by
                  have:=(List.getElem?_eq_some_iff.1 hu).1
                  rw[yW,hgi] at this;exact this
                 -- the row as an array of its own
                 have key:=zds (k:=k') cv.cells.toList new (get i') (xs.extract (i' * sz') (i' * sz'+sz')) off (by simp;omega) (fun j u hu=>by
                  have:=hst (hr j u hu)
                  simpa [List.getD_eq_getElem?_getD,Array.getD_eq_getD_getElem?] using this) (by simp;omega) (fun j u hu=>by
                  have hj':j < sz':=by have:=(List.getElem?_eq_some_iff.1 hu).1;omega
                  have h5:=hst (hrr i' j u hi' hu)
                  have h6:(xs.extract (i' * sz') (i' * sz'+sz')).getD j undef=xs.getD (i' * sz'+j) undef:=by
                   simp only[Array.getD_eq_getD_getElem?,Array.getElem?_extract]
                   rw[if_pos (by omega)]
                  rw[h6];exact h5) j u hu
                 have h7:∀ (vs:List Value) (ys:Array Value) (o:Nat),o+vs.length≤sz'→ys.size=xs.size →
                  (yc (ys.extract (i' * sz') (i' * sz'+sz')) o vs).getD j undef=(yc ys (i' * sz'+o) vs).getD (i' * sz'+j) undef:=by
                  intro vs
                  induction vs with
                  | nil =>
                    intro ys o _ _
                    simp only[yc,Array.getD_eq_getD_getElem?,Array.getElem?_extract]
                    rw[if_pos (by omega)]
                  | cons y vs ih =>
                    intro ys o ho hys
                    simp only[List.length_cons] at ho
                    rw[yc,yc]
                    have h8:(ys.extract (i' * sz') (i' * sz'+sz')).setIfInBounds o y=(ys.setIfInBounds (i' * sz'+o) y).extract (i' * sz') (i' * sz'+sz'):=by
                     apply Array.ext_getElem?
                     intro q
                     simp only[Array.getElem?_setIfInBounds,Array.getElem?_extract,Array.size_extract,Array.size_setIfInBounds]
                     by_cases e1:o=q
                     ·subst e1
                      simp only[if_true]
                      rw[if_pos (by omega),if_pos (by omega),if_pos (by omega)]
                     ·rw[if_neg e1]
                      by_cases e2:q < min (i' * sz'+sz') ys.size - i' * sz'
                      ·rw[if_pos e2,if_pos e2,if_neg (by omega)]
                      ·rw[if_neg e2,if_neg e2]
                    rw[h8,ih (ys.setIfInBounds (i' * sz'+o) y) (o+1) (by omega) (by simpa using hys)]
                    rw[Nat.add_assoc]
                 rw[h7 _ xs off (by simp;omega) rfl] at key
                 exact key
                ·simp only[q,if_false] at hu
                 rw[vb]
                 ·exact hst (hrr i' j u hi' hu)
                 ·have hj:j < sz':=by
                   have:=(List.getElem?_eq_some_iff.1 hu).1
                   rw[g1 i' hi'] at this;exact this
                  simp only[Array.length_toList]
                  rcases Nat.lt_or_gt_of_ne q with h9 | h9
                  ·left
                   have:(i'+1) * sz'≤i * sz':=Nat.mul_le_mul_right _ h9
                   rw[Nat.add_mul] at this
                   omega
                  ·right
                   have:(i+1) * sz'≤i' * sz':=Nat.mul_le_mul_right _ h9
                   rw[Nat.add_mul] at this
                   omega
          ·simp[e] at h
    | _=>simp at h
   ·rw[if_neg hcond] at h;cases h
def y5 (X:Cx)(o:Oper)(s:St)(Kn:St→Prop):Prop :=
 ∀ a w,Rel X.k0 s a w→∀ (next:Act→World→Prop) (Q:Exit→Act→World→Prop),(∀ s' a' w',Kn s'→Rel X.k0 s' a' w'→next a' w')→o.wpIn (WF X.r) 0 X.P a w next Q
theorem ym {r:Option Nat}{P:Program}{o:Oper}{a:Act}{w:World}{next:Act→World→Prop}{Q:Exit→Act→World→Prop}
 (hno:∀ c,o.op≠.defer c) (h:o.uponIn (WF r) 0 P a next Q ((execOp a.eval o).run P w)):o.wpIn (WF r) 0 P a w next Q:=by
 refine⟨fun _ _=>trivial,?_⟩
 rw[Oper.semAt_eq _ _ _ hno]
 exact h
theorem y5.of_run {X:Cx}{o:Oper}{s:St}{Kn:St→Prop}(v:V)(hp':Heap)(hno:∀ c,o.op≠.defer c)
 (h:∀ (M:Nat→Prop) (B:Loc→Option (Nat×Nat)) (a:Act) (w:World),Step X.k0 (mkK w M B s.hp s.ck)→HeapOk (mkK w M B s.hp s.ck)→zag (mkK w M B s.hp s.ck) s.tm a.tmps →
  ∃ cv w' M' B',(execOp a.eval o).run X.P w=.ok (.value cv) w'∧Step (mkK w M B s.hp s.ck) (mkK w' M' B' hp' s.ck)∧HeapOk (mkK w' M' B' hp' s.ck)∧R (mkK w' M' B' hp' s.ck) v cv)
 (hK:Kn ⟨s.ck,putTm s.tm o.dst v,hp'⟩):y5 X o s Kn:=by
 intro a w ⟨M,B,hst,hho,htm,hmk⟩ next Q hn
 obtain⟨cv,w',M',B',hrun,hst',hho',hv⟩:=h M B a w hst hho htm
 refine ym hno ?_
 rw[hrun]
 have hown:∀ b,(mkK w M B s.hp s.ck).owned b→(mkK w M B s.hp s.ck).M b:=fun b hb=>(hho.own b hb).1
 refine hn _ _ _ hK ⟨M',B',hst.trans hst',hho',(htm.step hst' hown).put hv,?_⟩
 have:(a.put o.dst cv).defers=a.defers:=by cases o.dst <;> rfl
 rw[this]
 exact hmk.step hst'
theorem y5.of_skip {X:Cx}{o:Oper}{s:St}{Kn:St→Prop}(hp':Heap)(hno:∀ c,o.op≠.defer c)
 (h:∀ (M:Nat→Prop) (B:Loc→Option (Nat×Nat)) (a:Act) (w:World),Step X.k0 (mkK w M B s.hp s.ck)→HeapOk (mkK w M B s.hp s.ck)→zag (mkK w M B s.hp s.ck) s.tm a.tmps →
  ∃ w' M' B',(execOp a.eval o).run X.P w=.ok .skip w'∧Step (mkK w M B s.hp s.ck) (mkK w' M' B' hp' s.ck)∧HeapOk (mkK w' M' B' hp' s.ck))
 (hK:Kn ⟨s.ck,putTm s.tm o.dst .top,hp'⟩):y5 X o s Kn:=by
 intro a w ⟨M,B,hst,hho,htm,hmk⟩ next Q hn
 obtain⟨w',M',B',hrun,hst',hho'⟩:=h M B a w hst hho htm
 refine ym hno ?_
 rw[hrun]
 have hown:∀ b,(mkK w M B s.hp s.ck).owned b→(mkK w M B s.hp s.ck).M b:=fun b hb=>(hho.own b hb).1
 refine hn _ _ _ hK ⟨M',B',hst.trans hst',hho',(htm.step hst' hown).put (.top _),?_⟩
 have:(a.put o.dst undef).defers=a.defers:=by cases o.dst <;> rfl
 rw[this]
 exact hmk.step hst'
theorem y5.of_val {X:Cx}(hX:X.Ok){o:Oper}{s:St}{Kn:St→Prop}(v:V)(hno:∀ c,o.op≠.defer c)
 (h:∀ (k:K) (a:Act),Step X.k0 k→HeapOk k→k.hp=s.hp→(∀ x,R k (ev X s x) (a.eval x))→∃ cv,(execOp a.eval o).run X.P k.w=.ok (.value cv) k.w∧R k v cv)
 (hK:Kn ⟨s.ck,putTm s.tm o.dst v,s.hp⟩):y5 X o s Kn :=
 y5.of_run v s.hp hno (fun M B a w hst hho htm=>by
  obtain⟨cv,h1,h2⟩:=h (mkK w M B s.hp s.ck) a hst hho rfl (fun x=>zcw hX (ds:=a.defers) hst htm x)
  exact⟨cv,w,M,B,h1,Step.refl _,hho,h2⟩) hK
def inK (k:IntKind)(n:Int):Prop:=k.min≤n∧n≤k.max
theorem qe {k:IntKind}{n:Int}(h:inK k n):k.wrap n=n:=by
 obtain⟨h1,h2⟩:=h
 cases k <;> simp only[IntKind.min,IntKind.max,IntKind.bits,IntKind.signed] at h1 h2 <;> simp at h1 h2 <;> simp[IntKind.wrap,IntKind.bits,IntKind.signed] <;> (try split) <;> omega
theorem zmo (n:Int):inK .i64 n↔-9223372036854775808≤n∧n≤9223372036854775807:=by simp[inK,IntKind.min,IntKind.max,IntKind.bits,IntKind.signed]
theorem zmn (n:Int):inK .u8 n↔0≤n∧n≤255:=by simp[inK,IntKind.min,IntKind.max,IntKind.bits,IntKind.signed]
def zgY (op:BinOp)(a b:Int):Option Bool :=
 match op with
 | .eql=>some (decide (a=b))
 | .neq=>some (!decide (a=b))
 | .lss=>some (decide (a < b))
 | .leq=>some (decide (a≤b))
 | .gtr=>some (decide (b < a))
 | .geq=>some (decide (b≤a))
 | _=>none
def bitV (op:BinOp)(k:IntKind)(a b:Int):Int :=
 match op with
 | .and=>k.wrap ((BitVec.ofInt k.bits a &&& BitVec.ofInt k.bits b).toNat:Int)
 | .or=>k.wrap ((BitVec.ofInt k.bits a ||| BitVec.ofInt k.bits b).toNat:Int)
 | .xor=>k.wrap ((BitVec.ofInt k.bits a ^^^ BitVec.ofInt k.bits b).toNat:Int)
 | _=>k.wrap ((BitVec.ofInt k.bits a &&& ~~~ BitVec.ofInt k.bits b).toNat:Int)
def intV (op:BinOp)(k:IntKind)(a b:Int):Option (Prop×V) :=
 match op with
 | .add=>some (inK k (a+b),.int k (a+b))
 | .sub=>some (inK k (a - b),.int k (a - b))
 | .mul=>some (inK k (a * b),.int k (a * b))
 | .quo=>some (b≠0∧inK k (a.tdiv b),.int k (a.tdiv b))
 | .rem=>some (b≠0,.int k (a.tmod b))
 | .and=>some (True,.int k (bitV .and k a b))
 | .or=>some (True,.int k (bitV .or k a b))
 | .xor=>some (True,.int k (bitV .xor k a b))
 | .andNot=>some (True,.int k (bitV .andNot k a b))
 | .shl=>some (0≤b∧b < k.bits∧inK k (a * 2 ^ b.toNat),.int k (a * 2 ^ b.toNat))
 | .shr=>some (0≤b∧b < k.bits,.int k (a.fdiv (2 ^ b.toNat)))
 | _=>(zgY op a b).map fun r=>(True,.bool r)
def zmz (op:BinOp)(k:FloatKind)(a b:Nat):Option Bool :=
 match op with
 | .eql=>some (k.format.order a b == some .eq)
 | .neq=>some (k.format.order a b != some .eq)
 | .lss=>some (k.format.order a b == some .lt)
 | .leq=>some (k.format.order a b == some .lt || k.format.order a b == some .eq)
 | .gtr=>some (k.format.order a b == some .gt)
 | .geq=>some (k.format.order a b == some .gt || k.format.order a b == some .eq)
 | _=>none
def fltV (op:BinOp)(k:FloatKind)(a b:Nat):Option (Prop×V) :=
 match op with
 | .add=>some ((k.format.add a b).isSome=true,.flt k ((k.format.add a b).getD 0))
 | .sub=>some ((k.format.sub a b).isSome=true,.flt k ((k.format.sub a b).getD 0))
 | .mul=>some ((k.format.mul a b).isSome=true,.flt k ((k.format.mul a b).getD 0))
 | .quo=>some ((k.format.div a b).isSome=true,.flt k ((k.format.div a b).getD 0))
 | _=>(zmz op k a b).map fun r=>(True,.bool r)
def strV (op:BinOp)(a b:List UInt8):Option (Prop×V) :=
 match op with
 | .add=>some (a.length+b.length≤9223372036854775807,.str (a++b))
 | .eql=>some (True,.bool (decide (a=b)))
 | .neq=>some (True,.bool (!decide (a=b)))
 | _=>none
def kN (P:Program)(t:TypeId)(cs:List V)(off:Nat):Option V :=
 match tagg P t with
 | some true=>some (.agg ((cs.drop off).take (tsz P t)))
 | some false=>cs[off]?
 | none=>none
mutual
def eqT (P:Program):Nat→TypeId→V→V→Option Bool
 | 0,_,_,_=>none
 | d+1,t,x,y =>
   match P.underlying t,x,y with
   | some .bool,.bool a,.bool b=>some (a == b)
   | some (.int _),.int k a,.int k' b=>if k=k' then some (decide (a=b)) else none
   | some .string,.str a,.str b=>some (decide (a=b))
   | some (.struct fs),.agg xs,.agg ys=>if P.stoodInHeld t=false then eqF P d fs.toList xs ys else none
   | some (.array n e),.agg xs,.agg ys=>if (tagg P e).isSome=true then eqA P d e (tsz P e) n 0 xs ys else none
   | _,_,_=>none
def eqF (P:Program):Nat→List Field→List V→List V→Option Bool
 | _,[],_,_=>some true
 | 0,_::_,_,_=>none
 | d+1,f::fs,xs,ys =>
   if f.name = "_" then none else
   match kN P f.type xs f.offset,kN P f.type ys f.offset with
   | some a,some b=>match eqT P d f.type a b,eqF P d fs xs ys with
     | some r,some r'=>some (r && r')
     | _,_=>none
   | _,_=>none
def eqA (P:Program):Nat→TypeId→Nat→Nat→Nat→List V→List V→Option Bool
 | 0,_,_,_,_,_,_=>none
 | _,_,_,0,_,_,_=>some true
 | d+1,e,sz,n+1,i,xs,ys =>
   match kN P e xs (i * sz),kN P e ys (i * sz) with
   | some a,some b=>match eqT P d e a b,eqA P d e sz n (i+1) xs ys with
     | some r,some r'=>some (r && r')
     | _,_=>none
   | _,_=>none
end
theorem zjc {P:Program}{w:World}{ρ:Operand→Value}{o:Oper}{op:BinOp}{t t':TypeId}{x y:Operand}{k:IntKind}{a b:Int}(ho:o.op=.binOp op t x y t')
 (hx:ρ x=.int k a) (hy:ρ y=.int k b) {pre:Prop} {v:V} (h:intV op k a b=some (pre,v)) (hp:pre) (kk:K) :
 ∃ cv,(execOp ρ o).run P w=.ok (.value cv) w∧R kk v cv:=by
 have hg:(eqGuard op t x y (.int k a) (.int k b)).run P w=.ok () w:=by cases op <;> simp[eqGuard]
 have hs:∀ n:Int,0≤n→n < k.bits→min n.toNat k.bits=n.toNat:=fun n h1 h2=>by omega
 cases op
 all_goals simp only[intV,zgY,Option.map_some,Option.map_none,Option.some.injEq,Prod.mk.injEq,reduceCtorEq,false_and] at h
 all_goals try (exact h.elim)
 all_goals obtain⟨rfl,rfl⟩:=h
 all_goals first
  | (refine⟨_,?_,.int _ _⟩;simp[execOp,ho,hx,hy,hg,binOp,Op.intArith,Op.intDiv,qe hp];done)
  | (refine⟨_,?_,.int _ _⟩;simp[execOp,ho,hx,hy,hg,binOp,Op.intDiv,hp.1,qe hp.2];done)
  | (refine⟨_,?_,.int _ _⟩;simp[execOp,ho,hx,hy,hg,binOp,Op.intDiv,hp];done)
  | (refine⟨_,?_,.int _ _⟩;simp[execOp,ho,hx,hy,hg,binOp,Op.shift,hs b hp.1 hp.2.1,qe hp.2.2,Int.not_lt.2 hp.1];done)
  | (refine⟨_,?_,.int _ _⟩;simp[execOp,ho,hx,hy,hg,binOp,Op.shift,hs b hp.1 hp.2,Int.not_lt.2 hp.1];done)
  | (refine⟨_,?_,.int _ _⟩;simp[execOp,ho,hx,hy,hg,binOp,Op.intBits,bitV];done)
  | (refine⟨_,?_,.bool _⟩;simp[execOp,ho,hx,hy,hg,binOp,Op.intCmp];done)
  | (refine⟨.bool (a == b),?_,?_⟩
     ·simp[execOp,ho,hx,hy,hg,binOp,Op.intCmp]
     ·rw[show (a == b)=decide (a=b) from rfl];exact .bool _)
  | (refine⟨.bool (a != b),?_,?_⟩
     ·simp[execOp,ho,hx,hy,hg,binOp,Op.intCmp]
     ·rw[show (a != b)=!decide (a=b) from rfl];exact .bool _)
theorem zjd {P:Program}{w:World}{ρ:Operand→Value}{o:Oper}{op:BinOp}{t t':TypeId}{x y:Operand}{k:FloatKind}{a b:Nat}(ho:o.op=.binOp op t x y t')
 (hx:ρ x=.float k a) (hy:ρ y=.float k b) {pre:Prop} {v:V} (h:fltV op k a b=some (pre,v)) (hp:pre) (kk:K) :
 ∃ cv,(execOp ρ o).run P w=.ok (.value cv) w∧R kk v cv:=by
 have hg:(eqGuard op t x y (.float k a) (.float k b)).run P w=.ok () w:=by cases op <;> simp[eqGuard]
 cases op
 all_goals simp only[fltV,zmz,Option.map_some,Option.map_none,Option.some.injEq,Prod.mk.injEq,reduceCtorEq,false_and] at h
 all_goals try (exact h.elim)
 all_goals obtain⟨rfl,rfl⟩:=h
 all_goals first
  | (refine⟨_,?_,.bool _⟩;simp[execOp,ho,hx,hy,hg,binOp,Op.floatCmp];done)
  | (obtain⟨r,hr⟩:=Option.isSome_iff_exists.1 hp
     rw[hr,Option.getD_some]
     refine⟨_,?_,.flt _ _⟩;simp[execOp,ho,hx,hy,hg,binOp,Op.floatArith,hr])
theorem zj8 {P:Program}{w:World}{ρ:Operand→Value}{o:Oper}{op:BinOp}{t t':TypeId}{x y:Operand}{a b:List UInt8}(ho:o.op=.binOp op t x y t')
 (hx:ρ x=.string ⟨a.toArray⟩) (hy:ρ y=.string ⟨b.toArray⟩) {pre:Prop} {v:V} (h:strV op a b=some (pre,v)) (hp:pre) (kk:K) :
 ∃ cv,(execOp ρ o).run P w=.ok (.value cv) w∧R kk v cv:=by
 have hg:(eqGuard op t x y (.string ⟨a.toArray⟩) (.string ⟨b.toArray⟩)).run P w=.ok () w:=by cases op <;> simp[eqGuard]
 have hl:∀ l:List UInt8,(⟨l.toArray⟩:ByteArray).toList=l:=fun l=>by rw[ByteArray.toList_eq]
 have hz:∀ l:List UInt8,(⟨l.toArray⟩:ByteArray).size=l.length:=fun l=>by simp[ByteArray.size]
 cases op
 all_goals simp only[strV,Option.some.injEq,Prod.mk.injEq,reduceCtorEq] at h
 all_goals obtain⟨rfl,rfl⟩:=h
 ·refine⟨.string ⟨(a++b).toArray⟩,?_,.str _⟩
  have h63:IntKind.i64.max=9223372036854775807:=by decide
  have hcat:(⟨a.toArray⟩:ByteArray)++⟨b.toArray⟩=⟨(a++b).toArray⟩:=by
   apply ByteArray.ext
   simp[ByteArray.data_append]
  have hnot:¬ (((⟨a.toArray⟩:ByteArray).size+(⟨b.toArray⟩:ByteArray).size:Nat):Int) > IntKind.i64.max:=by
   rw[hz,hz,h63];omega
  simp only[execOp,ho,hx,hy,Sem.run_bind,hg,Result.andThen_ok,binOp,Op.stringOp,if_neg hnot,Sem.run_pure,hcat]
 ·refine⟨.bool (a == b),?_,?_⟩
  ·simp[execOp,ho,hx,hy,hg,binOp,Op.stringOp,hl]
  ·rw[show (a == b)=decide (a=b) by rw[Bool.eq_iff_iff];simp];exact .bool _
 ·refine⟨.bool (!(a == b)),?_,?_⟩
  ·simp[execOp,ho,hx,hy,hg,binOp,Op.stringOp,hl]
  ·rw[show (a == b)=decide (a=b) by rw[Bool.eq_iff_iff];simp];exact .bool _
theorem zam {P:Program}{k:K}{t:TypeId}{cs:List V}{xs:Array Value}{off:Nat}{v:V}(hs:xs.size=cs.length)(h:∀ (j:Nat) (v:V),cs[j]?=some v→R k v (xs.getD j undef))
 (hv:kN P t cs off=some v) (w:World):∃ cv,(part t xs off).run P w=.ok cv w∧R k v cv:=by
 unfold kN at hv
 cases hg:tagg P t with
 | none=>simp[hg] at hv
 | some g =>
   cases g with
   | true =>
     simp only[hg,Option.some.injEq] at hv
     subst hv
     refine⟨.agg (xs.extract off (off+tsz P t)),by simp[part,kD hg,zD hg],.agg _ _ (by simp;omega) fun j u hu=>?_⟩
     have hj:j < tsz P t:=by
      have:=(List.getElem?_eq_some_iff.1 hu).1
      simp at this;omega
     rw[List.getElem?_take_of_lt hj,List.getElem?_drop] at hu
     have hlt:=(List.getElem?_eq_some_iff.1 hu).1
     have:=h _ u hu
     simp only[Array.getD_eq_getD_getElem?,Array.getElem?_extract] at this ⊢
     rw[if_pos (by omega)];exact this
   | false =>
     simp only[hg] at hv
     have hlt:=(List.getElem?_eq_some_iff.1 hv).1
     have h1:xs[off]?=some xs[off]:=Array.getElem?_eq_getElem (by omega)
     refine⟨xs[off],by simp[part,kD hg,h1],?_⟩
     have:=h off v hv
     rwa [getD_some h1] at this
def kj (d:Nat)(e:TypeId)(sz:Nat)(xs ys:Array Value):Nat→Nat→Sem Bool
 | 0,_=>pure true
 | n+1,i=>do
   let a ← part e xs (i * sz)
   let b ← part e ys (i * sz)
   let r ← Op.equalIn d e a b
   if (!r)=true then pure false else kj d e sz xs ys n (i+1)
theorem zai {P:Program}(w:World)(d:Nat)(t e:TypeId)(n:Nat)(xs ys:Array Value)(ht:P.underlying t=some (.array n e)){b:Bool}(he:tagg P e=some b) :
 (Op.equalIn (d+1) t (.agg xs) (.agg ys)).run P w=(kj d e (tsz P e) xs ys n 0).run P w:=by
 simp only[Op.equalIn,Sem.run_bind,run_underlying ht,Result.andThen_ok,zD he]
 rw[Std.Legacy.Range.forIn_eq_forIn_range']
 simp only[Std.Legacy.Range.size,Nat.sub_zero,Nat.add_sub_cancel,Nat.div_one]
 generalize 0=i
 clear ht
 induction n generalizing w i with
 | zero=>simp[kj]
 | succ n ih =>
   simp only[List.range'_succ,List.forIn_cons,kj,Sem.run_bind]
   generalize (part e xs (i * tsz P e)).run P w=r1
   cases r1 with
   | ok a w1 =>
     simp only[Result.andThen_ok]
     generalize (part e ys (i * tsz P e)).run P w1=r2
     cases r2 with
     | ok b w2 =>
       simp only[Result.andThen_ok]
       generalize (Op.equalIn d e a b).run P w2=r3
       cases r3 with
       | ok r w3 =>
         cases r
         ·simp only[Result.andThen_ok,Sem.run_ite,Bool.not_false,if_true,Sem.run_pure]
         ·simp only[Result.andThen_ok,Sem.run_ite,Bool.not_true,Bool.false_eq_true,if_false,Sem.run_pure]
          exact ih w3 (i+1)
       | halt x w3=>simp[Result.andThen]
     | halt x w2=>simp[Result.andThen]
   | halt x w1=>simp[Result.andThen]
theorem ziJ {P:Program}{k:K}:∀ d:Nat,
 (∀ (t:TypeId) (x y:V) (cx cy:Value) (r:Bool) (D:Nat),d≤D→R k x cx→R k y cy→eqT P d t x y=some r→∀ w,(Op.equalIn D t cx cy).run P w=.ok r w) ∧
 (∀ (fs:List Field) (xs ys:List V) (cxs cys:Array Value) (r:Bool) (D:Nat),d≤D→cxs.size=xs.length→cys.size=ys.length→(∀ (j:Nat) (v:V),xs[j]?=some v→R k v (cxs.getD j undef)) →
  (∀ (j:Nat) (v:V),ys[j]?=some v→R k v (cys.getD j undef))→eqF P d fs xs ys=some r→∀ w,(Op.eqFields D cxs cys fs).run P w=.ok r w) ∧
 (∀ (e:TypeId) (sz n i:Nat) (xs ys:List V) (cxs cys:Array Value) (r:Bool) (D:Nat),d≤D→cxs.size=xs.length→cys.size=ys.length→(∀ (j:Nat) (v:V),xs[j]?=some v→R k v (cxs.getD j undef)) →
  (∀ (j:Nat) (v:V),ys[j]?=some v→R k v (cys.getD j undef))→eqA P d e sz n i xs ys=some r→∀ w,(kj D e sz cxs cys n i).run P w=.ok r w):=by
 intro d
 induction d with
 | zero =>
   refine⟨fun t x y cx cy r D _ _ _ h=>by simp[eqT] at h,fun fs xs ys cxs cys r D _ _ _ _ _ h w=>?_,fun e sz n i xs ys cxs cys r D _ _ _ _ _ h=>by simp[eqA] at h⟩
   cases fs with
   | nil=>simp only[eqF,Option.some.injEq] at h;subst h;simp[Op.eqFields]
   | cons f fs=>simp[eqF] at h
 | succ d ih =>
   obtain⟨ihT,ihF,ihA⟩:=ih
   refine⟨fun t x y cx cy r D hD hx hy h w=>?_,fun fs xs ys cxs cys r D hD h1 h2 h3 h4 h w=>?_,fun e sz n i xs ys cxs cys r D hD h1 h2 h3 h4 h w=>?_⟩
   ·obtain⟨D,rfl⟩:∃ D',D=D'+1:=⟨D - 1,by omega⟩
    unfold eqT at h
    cases ht:P.underlying t with
    | none=>simp[ht] at h
    | some td =>
      simp only[ht] at h
      split at h
      ·rename_i e
       cases e
       simp only[Option.some.injEq] at h
       subst h
       rw[hx.bool_inv,hy.bool_inv]
       exact run_equalIn_bool w D t _ _ ht
      ·rename_i a b e
       cases e
       split at h
       ·rename_i e;subst e
        simp only[Option.some.injEq] at h
        subst h
        rw[hx.int_inv,hy.int_inv]
        exact run_equalIn_int w D t _ _ _ _ ht
       ·cases h
      ·rename_i e
       cases e
       simp only[Option.some.injEq] at h
       subst h
       rw[hx.str_inv,hy.str_inv,run_equalIn_string w D t _ _ ht,ByteArray.toList_eq,ByteArray.toList_eq]
       congr 1
       rw[Bool.eq_iff_iff];simp
      ·rename_i fs xs ys e
       cases e
       split at h
       ·rename_i hst
        have hf:P.fieldsOf t=fs:=by simp[Program.fieldsOf,ht]
        cases hx with
        | agg _ cxs hsx hrx =>
          cases hy with
          | agg _ cys hsy hry =>
            rw[run_equalIn_struct w D t cxs cys (by rw[hf];exact ht) hst,hf]
            exact ihF fs.toList xs ys cxs cys r D (by omega) hsx hsy hrx hry h w
       ·cases h
      ·rename_i n e xs ys ee
       cases ee
       cases hx with
       | agg _ cxs hsx hrx =>
         cases hy with
         | agg _ cys hsy hry =>
           split at h
           ·rename_i hn
            obtain⟨b,hb⟩:=Option.isSome_iff_exists.1 hn
            rw[zai w D t e n cxs cys ht hb]
            exact ihA e (tsz P e) n 0 xs ys cxs cys r D (by omega) hsx hsy hrx hry h w
           ·cases h
      ·cases h
   ·cases fs with
    | nil=>simp only[eqF,Option.some.injEq] at h;subst h;simp[Op.eqFields]
    | cons f fs =>
      unfold eqF at h
      split at h
      ·cases h
      ·rename_i hname
       cases ha:kN P f.type xs f.offset with
       | none=>simp[ha] at h
       | some a =>
         cases hb:kN P f.type ys f.offset with
         | none=>simp[ha,hb] at h
         | some b =>
           simp only[ha,hb] at h
           cases h5:eqT P d f.type a b with
           | none=>simp[h5] at h
           | some r1 =>
             cases h6:eqF P d fs xs ys with
             | none=>simp[h5,h6] at h
             | some r2 =>
               simp only[h5,h6,Option.some.injEq] at h
               subst h
               obtain⟨ca,hca,hra⟩:=zam h1 h3 ha w
               obtain⟨cb,hcb,hrb⟩:=zam h2 h4 hb w
               have e1:=ihT f.type a b ca cb r1 D (by omega) hra hrb h5 w
               have e2:=ihF fs xs ys cxs cys r2 D (by omega) h1 h2 h3 h4 h6 w
               simp only[Op.eqFields,ne_eq,hname,not_false_eq_true,if_true,Sem.run_bind,hca,Result.andThen_ok,hcb,e1]
               cases r1 <;> simp[e2]
   ·cases n with
    | zero =>
      simp only[eqA,Option.some.injEq] at h
      subst h
      simp[kj]
    | succ n =>
      unfold eqA at h
      cases ha:kN P e xs (i * sz) with
      | none=>simp[ha] at h
      | some a =>
        cases hb:kN P e ys (i * sz) with
        | none=>simp[ha,hb] at h
        | some b =>
          simp only[ha,hb] at h
          cases h5:eqT P d e a b with
          | none=>simp[h5] at h
          | some r1 =>
            cases h6:eqA P d e sz n (i+1) xs ys with
            | none=>simp[h5,h6] at h
            | some r2 =>
              simp only[h5,h6,Option.some.injEq] at h
              subst h
              obtain⟨ca,hca,hra⟩:=zam h1 h3 ha w
              obtain⟨cb,hcb,hrb⟩:=zam h2 h4 hb w
              have e1:=ihT e a b ca cb r1 D (by omega) hra hrb h5 w
              have e2:=ihA e sz n (i+1) xs ys cxs cys r2 D (by omega) h1 h2 h3 h4 h6 w
              simp only[kj,Sem.run_bind,hca,Result.andThen_ok,hcb,e1]
              cases r1 <;> simp[e2]
def cpxMul (a b c d:Nat):Option (Nat×Nat) :=
 match FloatKind.f64.format.mul a c,FloatKind.f64.format.mul b d,FloatKind.f64.format.mul a d,FloatKind.f64.format.mul b c with
 | some p,some q,some r,some s=>match FloatKind.f64.format.sub p q,FloatKind.f64.format.add r s with
   | some x,some y=>some (x,y)
   | _,_=>none
 | _,_,_,_=>none
def cpxSub (a b c d:Nat):Option (Nat×Nat) :=
 match FloatKind.f64.format.sub a c,FloatKind.f64.format.sub b d with
 | some x,some y=>some (x,y)
 | _,_=>none
def cpxB (op:BinOp)(k:FloatKind)(a b c d:Nat):Option (Prop×V) :=
 match op,k with
 | .mul,.f64=>some ((cpxMul a b c d).isSome=true,.cplx .f64 ((cpxMul a b c d).getD (0,0)).1 ((cpxMul a b c d).getD (0,0)).2)
 | .sub,.f64=>some ((cpxSub a b c d).isSome=true,.cplx .f64 ((cpxSub a b c d).getD (0,0)).1 ((cpxSub a b c d).getD (0,0)).2)
 | _,_=>none
theorem vp {P:Program}{w:World}{op:BinOp}{k:FloatKind}{x y r:Nat}(h:(Op.floatArith op k x y).run P w=.ok (.float k r) w):(Op.Complex.arith op k x y).run P w=.ok r w:=by
 simp[Op.Complex.arith,h]
theorem zje {P:Program}{w:World}{ρ:Operand→Value}{o:Oper}{op:BinOp}{t t':TypeId}{x y:Operand}{k:FloatKind}{a b c d:Nat}(ho:o.op=.binOp op t x y t')
 (hx:ρ x=.complex k a b) (hy:ρ y=.complex k c d) {pre:Prop} {v:V} (h:cpxB op k a b c d=some (pre,v)) (hp:pre) (kk:K) :
 ∃ cv,(execOp ρ o).run P w=.ok (.value cv) w∧R kk v cv:=by
 have hg:(eqGuard op t x y (.complex k a b) (.complex k c d)).run P w=.ok () w:=by cases op <;> simp[cpxB] at h <;> simp[eqGuard]
 unfold cpxB at h
 split at h
 ·cases h
  obtain⟨⟨u,v⟩,hr⟩:=Option.isSome_iff_exists.1 hp
  rw[hr]
  refine⟨_,?_,.cplx _ _ _⟩
  unfold cpxMul at hr
  split at hr
  ·rename_i p q r s h1 h2 h3 h4
   split at hr
   ·rename_i x0 y0 h5 h6
    cases hr
    have e1:∀ z:Nat,(Op.Complex.conv .f64 z .f64).run P w=.ok z w:=fun z=>by simp[Op.Complex.conv]
    have m1:=vp (P:=P) (w:=w) (op:=.mul) (k:=.f64) (x:=a) (y:=c) (r:=p) (by simp[Op.floatArith,h1])
    have m2:=vp (P:=P) (w:=w) (op:=.mul) (k:=.f64) (x:=b) (y:=d) (r:=q) (by simp[Op.floatArith,h2])
    have m3:=vp (P:=P) (w:=w) (op:=.mul) (k:=.f64) (x:=a) (y:=d) (r:=r) (by simp[Op.floatArith,h3])
    have m4:=vp (P:=P) (w:=w) (op:=.mul) (k:=.f64) (x:=b) (y:=c) (r:=s) (by simp[Op.floatArith,h4])
    have m5:=vp (P:=P) (w:=w) (op:=.sub) (k:=.f64) (x:=p) (y:=q) (r:=u) (by simp[Op.floatArith,h5])
    have m6:=vp (P:=P) (w:=w) (op:=.add) (k:=.f64) (x:=r) (y:=s) (r:=v) (by simp[Op.floatArith,h6])
    have hb:(BinOp.mul == BinOp.mul)=true:=rfl
    simp[execOp,ho,hx,hy,hg,binOp,Op.complexOp,e1,Op.Complex.product,Op.Complex.mul,Op.Complex.sub,Op.Complex.add,m1,m2,m3,m4,m5,m6,hb]
   ·cases hr
  ·cases hr
 ·cases h
  obtain⟨⟨u,v⟩,hr⟩:=Option.isSome_iff_exists.1 hp
  rw[hr]
  refine⟨_,?_,.cplx _ _ _⟩
  unfold cpxSub at hr
  split at hr
  ·rename_i x0 y0 h5 h6
   cases hr
   have m5:=vp (P:=P) (w:=w) (op:=.sub) (k:=.f64) (x:=a) (y:=c) (r:=u) (by simp[Op.floatArith,h5])
   have m6:=vp (P:=P) (w:=w) (op:=.sub) (k:=.f64) (x:=b) (y:=d) (r:=v) (by simp[Op.floatArith,h6])
   simp[execOp,ho,hx,hy,hg,binOp,Op.complexOp,m5,m6]
  ·cases hr
 ·cases h
def binV (P:Program)(op:BinOp)(t:TypeId)(x y:V):Option (Prop×V) :=
 match x,y with
 | .cplx k a b,.cplx k' c d=>if k=k' then cpxB op k a b c d else none
 | .int k a,.int k' b=>if k=k' then intV op k a b else none
 | .flt k a,.flt k' b=>if k=k' then fltV op k a b else none
 | .str a,.str b=>strV op a b
 | .bool a,.bool b=>match op with
   | .eql=>(eqT P 3 t (.bool a) (.bool b)).map fun r=>(True,.bool r)
   | .neq=>(eqT P 3 t (.bool a) (.bool b)).map fun r=>(True,.bool (!r))
   | _=>none
 | .agg xs,.agg ys=>if P.eqGuardType P.depth t=false then match op with
  | .eql=>(eqT P 60 t (.agg xs) (.agg ys)).map fun r=>(True,.bool r)
  | .neq=>(eqT P 60 t (.agg xs) (.agg ys)).map fun r=>(True,.bool (!r))
  | _=>none
   else none
 | _,_=>none
theorem run_bin {P:Program}{k:K}{ρ:Operand→Value}{o:Oper}{op:BinOp}{t t':TypeId}{x y:Operand}(ho:o.op=.binOp op t x y t'){u v:V}
 (hx:R k u (ρ x)) (hy:R k v (ρ y)) {pre:Prop} {r:V} (h:binV P op t u v=some (pre,r)) (hp:pre) :
 ∃ cv,(execOp ρ o).run P k.w=.ok (.value cv) k.w∧R k r cv:=by
 unfold binV at h
 split at h
 ·split at h
  ·rename_i e;subst e;exact zje ho hx.cplx_inv hy.cplx_inv h hp k
  ·cases h
 ·split at h
  ·rename_i e;subst e;exact zjc ho hx.int_inv hy.int_inv h hp k
  ·cases h
 ·split at h
  ·rename_i e;subst e;exact zjd ho hx.flt_inv hy.flt_inv h hp k
  ·cases h
 ·exact zj8 ho hx.str_inv hy.str_inv h hp k
 ·rename_i a b
  have ex:=hx.bool_inv
  have ey:=hy.bool_inv
  have hg:∀ op',(eqGuard op' t x y (.bool a) (.bool b)).run P k.w=.ok () k.w:=fun op'=>by cases op' <;> simp[eqGuard]
  cases op <;> try (simp at h;done)
  all_goals
   simp only[Option.map_eq_some_iff] at h
   obtain⟨r',h1,h2⟩:=h
   cases h2
   have he:=(ziJ (P:=P) (k:=k) 3).1 t _ _ _ _ r' 10000 (by omega) hx hy h1 k.w
   refine⟨_,?_,.bool _⟩
   rw[ex,ey] at he
   simp[execOp,ho,ex,ey,hg,binOp,Op.equal,Op.maxDepth,he]
 ·rename_i xs ys
  split at h
  ·rename_i hgd
   obtain⟨cxs,ex,hsx,hrx⟩:=hx.agg_inv
   obtain⟨cys,ey,hsy,hry⟩:=hy.agg_inv
   have hg:∀ op',(eqGuard op' t x y (.agg cxs) (.agg cys)).run P k.w=.ok () k.w:=fun op'=>run_eqGuard_agg k.w op' t x y cxs cys hgd
   cases op <;> try (simp at h;done)
   all_goals
    simp only[Option.map_eq_some_iff] at h
    obtain⟨r',h1,h2⟩:=h
    cases h2
    have he:=(ziJ (P:=P) (k:=k) 60).1 t _ _ _ _ r' 10000 (by omega) hx hy h1 k.w
    refine⟨_,?_,.bool _⟩
    rw[ex,ey] at he
    simp only[execOp,ho,ex,ey,Sem.run_bind,hg,Result.andThen_ok,run_eql_struct,run_neq_struct,he,Sem.run_pure]
  ·cases h
 ·cases h
def unV (op:UnOp)(x:V):Option (Prop×V) :=
 match op,x with
 | .neg,.int k n=>some (inK k (-n),.int k (-n))
 | .not,.bool b=>some (True,.bool (!b))
 | .neg,.flt k n=>some (True,.flt k (Op.negFloat k n))
 | .neg,.cplx k a b=>some (True,.cplx k (Op.negFloat k a) (Op.negFloat k b))
 | _,_=>none
theorem run_un {P:Program}{k:K}{ρ:Operand→Value}{o:Oper}{op:UnOp}{t:TypeId}{x:Operand}(ho:o.op=.unOp op t x){u:V}
 (hx:R k u (ρ x)) {pre:Prop} {r:V} (h:unV op u=some (pre,r)) (hp:pre):∃ cv,(execOp ρ o).run P k.w=.ok (.value cv) k.w∧R k r cv:=by
 unfold unV at h
 split at h
 ·cases h
  refine⟨_,?_,.int _ _⟩
  simp[execOp,ho,hx.int_inv,Op.unary,Op.intArith,qe hp]
 ·cases h
  exact⟨_,by simp[execOp,ho,hx.bool_inv,Op.unary],.bool _⟩
 ·cases h
  exact⟨_,by simp[execOp,ho,hx.flt_inv,Op.unary],.flt _ _⟩
 ·cases h
  exact⟨_,by simp[execOp,ho,hx.cplx_inv,Op.unary],.cplx _ _ _⟩
 ·cases h
def u8At (get:Nat→List V)(i:Nat):Int:=match get i with | [.int _ x]=>x | _=>0
def ziS (n:Nat)(get:Nat→List V):List UInt8:=(List.range n).map fun i=>UInt8.ofNat (u8At get i).toNat
def znh (P:Program)(src dst:TypeId)(x:V):Option (Prop×V) :=
 match P.underlying src,P.underlying dst,x with
 | some _,some (.int k),.int k' n=>if k'=k∨(k'.bits < k.bits∧k.signed=true) then some (inK k n,.int k n) else some (True,.int k (k.wrap n))
 | some _,some (.float k),.int _ n=>some (True,.flt k (k.nearest n))
 | some _,some (.int k),.flt s b=>some (((s.decode b).toInt .zero).isSome=true∧inK k (((s.decode b).toInt .zero).getD 0),.int k (((s.decode b).toInt .zero).getD 0))
 | some _,some (.float k),.flt s b=>if s=k then some (True,.flt k b) else none
 | some _,some .string,.str s=>some (True,.str s)
 | some (.slice e),some .string,.sl n sz get=>match P.underlying e with
   | some (.int .u8)=>some (0 < n∧sz=1∧∀ i,i < n→get i=[.int .u8 (u8At get i)],.str (ziS n get))
   | _=>none
 | _,_,_=>none
theorem run_conv {P:Program}{k:K}{ρ:Operand→Value}{o:Oper}{src dst:TypeId}{x:Operand}(ho:o.op=.convert src dst x){u:V}
 (hx:R k u (ρ x)) {pre:Prop} {r:V} (h:znh P src dst u=some (pre,r)) (hp:pre):∃ cv,(execOp ρ o).run P k.w=.ok (.value cv) k.w∧R k r cv:=by
 unfold znh at h
 split at h
 ·rename_i h1 h2
  split at h
  ·cases h
   refine⟨_,?_,.int _ _⟩
   simp[execOp,ho,convert,run_underlying h1,run_underlying h2,hx.int_inv,Conv.intToInt,qe hp]
  ·cases h
   refine⟨_,?_,.int _ _⟩
   simp[execOp,ho,convert,run_underlying h1,run_underlying h2,hx.int_inv,Conv.intToInt]
 ·rename_i h1 h2
  cases h
  refine⟨_,?_,.flt _ _⟩
  simp[execOp,ho,convert,run_underlying h1,run_underlying h2,hx.int_inv,Conv.intToFloat]
 ·rename_i h1 h2
  cases h
  obtain⟨p1,p2⟩:=hp
  obtain⟨n,hn⟩:=Option.isSome_iff_exists.1 p1
  rw[hn,Option.getD_some] at p2 ⊢
  refine⟨_,?_,.int _ _⟩
  simp[execOp,ho,convert,run_underlying h1,run_underlying h2,hx.flt_inv,Conv.floatToInt,hn,p2.1,p2.2]
 ·rename_i h1 h2
  split at h
  ·rename_i e
   subst e
   cases h
   refine⟨_,?_,.flt _ _⟩
   simp[execOp,ho,convert,run_underlying h1,run_underlying h2,hx.flt_inv,Conv.floatToFloat]
  ·cases h
 ·rename_i h1 h2
  cases h
  refine⟨_,?_,.str _⟩
  simp[execOp,ho,convert,run_underlying h1,run_underlying h2,hx.str_inv]
 ·rename_i e n sz get h1 h2
  split at h
  ·rename_i he
   cases h
   obtain⟨p1,rfl,p3⟩:=hp
   generalize hρ:ρ x=cv at hx
   cases hx with
   | sl0=>exact absurd p1 (Nat.lt_irrefl _)
   | sl _ _ _ b off cap y hM hb hcap hpu hl hc hr =>
     refine⟨_,?_,.str _⟩
     have hcell:∀ i,i < n→k.w.cell? ⟨b,off+i,none⟩=some (.int .u8 (((List.range n).map fun i=>u8At get i).getD i 0)):=fun i hi=>by
      have q:=hc i 0 hi (by decide)
      have q2:=(hr i 0 (.int .u8 (u8At get i)) hi (by rw[p3 i hi];rfl)).int_inv
      rw[Nat.mul_one,Nat.add_zero] at q
      rw[q,q2]
      simp[List.getD_eq_getElem?_getD,hi]
     have e:=run_convert_bytes_arg (P:=P) k.w src _ h1 he b off n cap ((List.range n).map fun i=>u8At get i) (by simp) hcell dst h2
     have e2:strOfNums ((List.range n).map fun i=>u8At get i)=⟨(ziS n get).toArray⟩:=by unfold strOfNums ziS;rw[List.map_map];rfl
     rw[e2] at e
     simp only[execOp,ho,hρ,Sem.run_bind,e,Result.andThen_ok,Sem.run_pure]
  ·cases h
 ·cases h
def zd3 (P:Program)(t:TypeId)(x i:V):Option (Prop×V) :=
 match P.underlying t,x,i with
 | some (.array len e),.agg cs,.int _ i=>(kN P e cs (i.toNat * tsz P e)).map fun v=>(0≤i∧i < len,v)
 | some .string,.str s,.int _ i=>some (0≤i∧i < s.length,.int .u8 (s.getD i.toNat 0).toNat)
 | _,_,_=>none
theorem zkP {P:Program}{k:K}{ρ:Operand→Value}{o:Oper}{t:TypeId}{x i:Operand}(ho:o.op=.index t x i){u v:V}
 (hx:R k u (ρ x)) (hi:R k v (ρ i)) {pre:Prop} {r:V} (h:zd3 P t u v=some (pre,r)) (hp:pre):∃ cv,(execOp ρ o).run P k.w=.ok (.value cv) k.w∧R k r cv:=by
 unfold zd3 at h
 split at h
 ·rename_i len e cs ik i h1
  simp only[Option.map_eq_some_iff] at h
  obtain⟨r',hr',h2⟩:=h
  cases h2
  obtain⟨xs,ex,hs,hr⟩:=hx.agg_inv
  obtain⟨cv,hc,hv⟩:=zam hs hr hr' k.w
  refine⟨cv,?_,hv⟩
  have hsz:∃ b,tagg P e=some b:=by
   unfold kN at hr'
   split at hr'
   ·rename_i q;exact⟨_,q⟩
   ·rename_i q;exact⟨_,q⟩
   ·cases hr'
  obtain⟨b,hb⟩:=hsz
  simp[execOp,ho,Instr.index,asIntOf,hi.int_inv,ex,run_underlying h1,hp.1,hp.2,zD hb,hc]
 ·rename_i s ik i h1
  cases h
  refine⟨_,?_,.int _ _⟩
  have hlt:i.toNat < s.length:=by omega
  have hget:(⟨s.toArray⟩:ByteArray)[i.toNat]?=some s[i.toNat]:=by
   have hz:i.toNat < (⟨s.toArray⟩:ByteArray).size:=by simpa [ByteArray.size] using hlt
   rw[getElem?_pos (⟨s.toArray⟩:ByteArray) i.toNat hz]
   rfl
  simp only[execOp,ho,Instr.index,Sem.run_bind,hi.int_inv,asIntOf,Sem.run_pure,Result.andThen_ok,hx.str_inv,run_underlying h1,if_pos hp.1,hget]
  simp[List.getD_eq_getElem?_getD,hlt]
 ·cases h
def zfF (P:Program)(t:TypeId)(x:V)(f:Nat):Option V :=
 match P.underlying t,x with
 | some (.struct fs),.agg cs=>match fs[f]? with
   | some fd=>kN P fd.type cs fd.offset
   | none=>none
 | _,_=>none
theorem zkQ {P:Program}{k:K}{ρ:Operand→Value}{o:Oper}{t:TypeId}{x:Operand}{f:Nat}(ho:o.op=.field t x f){u:V}
 (hx:R k u (ρ x)) {r:V} (h:zfF P t u f=some r):∃ cv,(execOp ρ o).run P k.w=.ok (.value cv) k.w∧R k r cv:=by
 unfold zfF at h
 split at h
 ·rename_i h1
  split at h
  ·rename_i fd hf
   obtain⟨xs,ex,hs,hr⟩:=hx.agg_inv
   obtain⟨cv,hc,hv⟩:=zam hs hr h k.w
   exact⟨cv,by simp[execOp,ho,Instr.field,run_underlying h1,hf,asAgg,ex,hc],hv⟩
  ·cases h
 ·cases h
def qI (x:V)(i:Nat):Option V :=
 match x with
 | .tup vs=>vs[i]?
 | _=>none
theorem zgk {P:Program}{k:K}{ρ:Operand→Value}{o:Oper}{x:Operand}{i:Nat}(ho:o.op=.extract x i){u:V}
 (hx:R k u (ρ x)) {r:V} (h:qI u i=some r):∃ cv,(execOp ρ o).run P k.w=.ok (.value cv) k.w∧R k r cv:=by
 unfold qI at h
 split at h
 ·obtain⟨xs,ex,hs,hr⟩:=hx.tup_inv
  have hlt:=(List.getElem?_eq_some_iff.1 h).1
  have h1:xs[i]?=some xs[i]:=Array.getElem?_eq_getElem (by omega)
  have:=hr i r h
  rw[getD_some h1] at this
  exact⟨xs[i],by simp[execOp,ho,Instr.extract,ex,h1],this⟩
 ·cases h
def onV (hp:Heap)(x:V)(by_:Nat):Option V :=
 if (ve hp x).isSome=true then
  match x with
  | .ptr l off=>some (.ptr l (off+by_))
  | .cptr cs=>some (.cptr (cs.drop by_))
  | .eptr l n sz i off=>some (.eptr l n sz i (off+by_))
  | _=>none
 else none
theorem onV_R {k:K}(hk:HeapOk k){x:V}{cv:Value}(hx:R k x cv){n:Nat}{r:V}(h:onV k.hp x n=some r) :
 ∃ b off,cv=.pointer (some ⟨b,off,none⟩)∧R k r (.pointer (some ⟨b,off+n,none⟩)):=by
 unfold onV at h
 split at h
 ·rename_i hs
  obtain⟨cs,hcs⟩:=Option.isSome_iff_exists.1 hs
  obtain⟨b,off,xx,hcv,h1,h2⟩:=zco hk hx hcs
  refine⟨b,off,hcv,?_⟩
  subst hcv
  cases hx with
  | ptr l o _ h1c hn hh =>
    simp only[Option.some.injEq] at h
    subst h
    refine .ptr _ _ _ rfl hn fun cs' hcs'=>?_
    have:=hh cs' hcs'
    cases hB:k.B l with
    | none=>simp[hB,eptrVal] at this
    | some bc =>
      obtain⟨b',c'⟩:=bc
      simp only[hB,eptrVal,Value.pointer.injEq,Option.some.injEq,Addr.mk.injEq] at this
      simp[eptrVal,this.1,this.2.1]
  | cptr cs' b off x hM hb hp hc hr =>
    simp only[Option.some.injEq] at h
    subst h
    have hpu:Pu (.cptr (cs'.drop n)):=by
     cases hp with
     | cptr _ hp=>exact .cptr _ fun j v hv=>hp _ v (by rw[List.getElem?_drop] at hv;exact hv)
    refine .cptr _ b (off+n) (fun j=>x (n+j)) hM hb hpu (fun j hj=>?_) fun j v hv=>hr _ v (by rw[List.getElem?_drop] at hv;exact hv)
    simp only[List.length_drop] at hj
    rw[Nat.add_assoc]
    exact hc (n+j) (by omega)
  | eptr l m sz i o _ h1c hn hh =>
    simp only[Option.some.injEq] at h
    subst h
    refine .eptr _ _ _ _ _ _ rfl hn fun n' sz' get hg=>?_
    obtain⟨q1,q2,q3⟩:=hh n' sz' get hg
    refine⟨q1,q2,fun e=>?_⟩
    obtain⟨q4,q5⟩:=q3 e
    refine⟨q4,?_⟩
    cases hB:k.B l with
    | none=>simp[hB,eptrVal] at q5
    | some bc =>
      obtain⟨b',c'⟩:=bc
      simp only[hB,eptrVal,Value.pointer.injEq,Option.some.injEq,Addr.mk.injEq] at q5
      simp[eptrVal,q5.1,q5.2.1,Nat.add_assoc]
  | _=>simp at h
 ·cases h
def yI (P:Program)(hp:Heap)(t:TypeId)(x:V)(f:Nat):Option V :=
 match P.underlying t with
 | some (.struct fs)=>match fs[f]? with
   | some fd=>if (tagg P fd.type).isSome=true∧tsz P fd.type≠0 then onV hp x fd.offset else none
   | none=>none
 | _=>none
theorem zdw {P:Program}{k:K}(hk:HeapOk k){ρ:Operand→Value}{o:Oper}{t:TypeId}{x:Operand}{f:Nat}(ho:o.op=.fieldAddr t x f){u:V}
 (hx:R k u (ρ x)) {r:V} (h:yI P k.hp t u f=some r):∃ cv,(execOp ρ o).run P k.w=.ok (.value cv) k.w∧R k r cv:=by
 unfold yI at h
 split at h
 ·rename_i h1
  split at h
  ·rename_i fd hf
   split at h
   ·rename_i hsz
    obtain⟨b,hb⟩:=Option.isSome_iff_exists.1 hsz.1
    obtain⟨b',off,hcv,hr⟩:=onV_R hk hx h
    refine⟨_,?_,hr⟩
    simp[execOp,ho,Instr.fieldAt,run_underlying h1,hf,Instr.sureAddr,hcv,fieldPlace,zD hb,hsz.2,w5]
   ·cases h
  ·cases h
 ·cases h
def yH (P:Program)(hp:Heap)(t:TypeId)(x i:V):Option (Prop×V) :=
 match P.underlying t,i with
 | some (.array len e),.int _ i=>if (tagg P e).isSome=true then (onV hp x (i.toNat * tsz P e)).map fun v=>(0≤i∧i < len,v) else none
 | some (.slice e),.int _ i =>
   if (tagg P e).isSome=true then
    match x with
    | .sl n sz get=>some (0≤i∧i < n∧sz=tsz P e,.cptr (get i.toNat))
    | .msl l off len=>match hp l with
      | some (.arr n sz _)=>some (0≤i∧i < len∧sz=tsz P e∧off+len=n,.eptr l n sz (off+i.toNat) 0)
      | _=>none
    | _=>none
   else none
 | _,_=>none
theorem zdv {P:Program}{k:K}(hk:HeapOk k){ρ:Operand→Value}{o:Oper}{t:TypeId}{x i:Operand}(ho:o.op=.indexAddr t x i){u v:V}
 (hx:R k u (ρ x)) (hi:R k v (ρ i)) {pre:Prop} {r:V} (h:yH P k.hp t u v=some (pre,r)) (hp:pre):∃ cv,(execOp ρ o).run P k.w=.ok (.value cv) k.w∧R k r cv:=by
 unfold yH at h
 split at h
 ·rename_i len e ik n h1
  split at h
  ·rename_i hsz
   obtain⟨b,hb⟩:=Option.isSome_iff_exists.1 hsz
   simp only[Option.map_eq_some_iff] at h
   obtain⟨r',hr',h2⟩:=h
   cases h2
   obtain⟨b',off,hcv,hr⟩:=onV_R hk hx hr'
   refine⟨_,?_,hr⟩
   simp[execOp,ho,Instr.indexAt,asIntOf,hi.int_inv,run_underlying h1,Instr.sureAddr,hcv,hp.1,hp.2,zD hb,w5]
  ·cases h
 ·rename_i e ik n h1
  split at h
  ·rename_i hsz
   obtain⟨b,hb⟩:=Option.isSome_iff_exists.1 hsz
   split at h
   ·rename_i m sz get
    cases h
    obtain⟨p1,p2,p3⟩:=hp
    cases hq:ρ x with
    | slice oa len cap =>
      rw[hq] at hx
      cases hx with
      | sl0=>omega
      | sl _ _ _ bb off _ xx hM hbb hcap hpu hl hc hr =>
        have hlt:n.toNat < m:=by omega
        have hpu':Pu (.cptr (get n.toNat)):=by
         cases hpu with
         | sl _ _ _ hpu=>exact .cptr _ fun j v hv=>hpu _ j v hlt hv
        refine⟨.pointer (some ⟨bb,off+n.toNat * sz,none⟩),?_,.cptr _ bb _ (fun j=>xx n.toNat j) hM hbb hpu' (fun j hj=>?_) fun j v hv=>hr _ j v hlt hv⟩
        ·simp[execOp,ho,Instr.indexAt,asIntOf,hi.int_inv,run_underlying h1,hq,p1,p2,zD hb,w5,p3]
        ·rw[hl _ hlt] at hj
         exact hc _ j hlt hj
    | _=>rw[hq] at hx;cases hx
   ·rename_i l off len
    cases ho2:k.hp l with
    | none=>simp[ho2] at h
    | some ob =>
      cases ob with
      | cells cs=>simp[ho2] at h
      | dead=>simp[ho2] at h
      | raw r=>simp[ho2] at h
      | buf _ _ _=>simp[ho2] at h
      | arr m sz get =>
        simp only[ho2,Option.some.injEq,Prod.mk.injEq] at h
        obtain⟨rfl,rfl⟩:=h
        obtain⟨p1,p2,p3,p4⟩:=hp
        obtain⟨g1,g2,g3⟩:=hk.obj l _ ho2
        generalize hq:ρ x=cx at hx
        cases hx with
        | msl _ _ _ _ h1c hn hh =>
          obtain⟨q1,q2⟩:=hh _ _ _ ho2
          have hcx:=q2 p4
          cases hB:k.B l with
          | none=>simp only[hB] at g3;omega
          | some bc =>
            obtain⟨bb,c⟩:=bc
            simp only[hB,mslVal] at hcx
            subst hcx
            refine⟨.pointer (some ⟨bb,(off+n.toNat) * sz,none⟩),?_,.eptr _ _ _ _ _ _ rfl hn fun n' sz' get' hg'=>?_⟩
            ·simp[execOp,ho,Instr.indexAt,asIntOf,hi.int_inv,run_underlying h1,hq,p1,p2,zD hb,w5,p3,Nat.add_mul]
            ·rw[ho2] at hg'
             cases hg'
             exact⟨Nat.le_refl _,by omega,fun _=>⟨rfl,by simp[hB,eptrVal]⟩⟩
   ·cases h
  ·cases h
 ·cases h
def wa (cells:List V)(sz i:Nat):List V:=(cells.drop (i * sz)).take sz
theorem jn {cells:List V}{sz i j:Nat}{v:V}(h:(wa cells sz i)[j]?=some v):cells[i * sz+j]?=some v:=by
 unfold wa at h
 rw[List.getElem?_take] at h
 split at h
 ·rw[List.getElem?_drop] at h;exact h
 ·cases h
def zab (d:Nat):Option V→Option Int
 | none=>some d
 | some (.int _ i)=>some i
 | some _=>none
def slV (hp:Heap)(x:V)(lo hi:Int):Option (Prop×V) :=
 match x with
 | .str s=>some (0≤lo∧lo≤hi∧hi≤s.length,.str ((s.take hi.toNat).drop lo.toNat))
 | .sl n sz get=>some (0≤lo∧lo≤hi∧hi≤n,.sl (hi.toNat - lo.toNat) sz (fun i=>get (lo.toNat+i)))
 | .msl l off len=>match hp l with
   | some (.arr n sz _)=>some (0≤lo∧(lo=0∨lo < hi)∧hi=len∧off+len=n,.msl l (off+lo.toNat) (hi.toNat - lo.toNat))
   | _=>none
 | .bsl l off len=>match hp l with
   | some (.buf c _ _)=>some (0≤lo∧lo≤hi∧off+hi≤c∧(lo=0∨off+lo < c)∧off+len≤c,.bsl l (off+lo.toNat) (hi.toNat - lo.toNat))
   | _=>none
 | _=>none
def zfq (hp:Heap)(x:V):Option (Prop×Nat) :=
 match x with
 | .str s=>some (True,s.length)
 | .sl n _ _=>some (True,n)
 | .nils=>some (True,0)
 | .msl l off len=>match hp l with
   | some (.arr n _ _)=>some (off+len=n,len)
   | _=>none
 | .bsl l off len=>match hp l with
   | some (.buf _ _ _)=>some (True,len)
   | _=>none
 | _=>none
def pslB:Option V→Option V→Bool
 | none,some _=>true
 | _,_=>false
def kB (P:Program)(hp:Heap)(t:TypeId)(x:V)(lo hi:Option V):Option (Prop×V) :=
 match P.underlying t with
 | some .string | some (.slice _) =>
   match zfq hp x with
   | some (p0,n)=>match zab 0 lo,zab n hi with
     | some l,some h=>match P.underlying t,x with
       | some .string,.str _=>slV hp x l h
       | some (.slice e),.sl _ sz _=>(slV hp x l h).map fun q=>(q.1∧sz=tsz P e∧(tagg P e).isSome=true,q.2)
       | some (.slice e),.msl ml off len=>match hp ml with
         | some (.arr n sz _)=>if pslB lo hi=true then some ((0≤h∧h≤len∧off+len=n)∧sz=tsz P e∧(tagg P e).isSome=true,.psl ml n off h.toNat) else (slV hp x l h).map fun q=>(q.1∧sz=tsz P e∧(tagg P e).isSome=true,q.2)
         | _=>none
       | some (.slice e),.bsl ml _ _=>match hp ml with
         | some (.buf _ sz _)=>(slV hp x l h).map fun q=>(q.1∧sz=tsz P e∧(tagg P e).isSome=true,q.2)
         | _=>none
       | _,_=>none
     | _,_=>none
   | none=>none
 | some (.pointer a) =>
   match x,lo,hi,P.underlying a with
   | .cptr cs,none,none,some (.array n e)=>if (tagg P e).isSome=true then some (n * tsz P e≤cs.length,.sl n (tsz P e) (wa cs (tsz P e))) else none
   | _,_,_,_=>none
 | some (.array n e) =>
   match x,lo,hi with
   | .cptr cs,none,none=>if (tagg P e).isSome=true then some (n * tsz P e≤cs.length,.sl n (tsz P e) (wa cs (tsz P e))) else none
   | _,_,_=>none
 | _=>none
theorem wW {P:Program}{w:World}{k:IntKind}{i:Int}{y:Nat}{c:BoundsCode}(h0:0≤i)(h1:i≤y):(Instr.sliceBound (.int k i) y c).run P w=.ok i.toNat w:=by
 simp[Instr.sliceBound,asIntOf,h0,h1]
theorem zbE {P:Program}{w:World}{isS:Bool}{len cap:Nat}{clo chi:Option Value}(hlen:len≤cap){l h:Int}
 (hlo:(clo=none∧l=0)∨∃ k,clo=some (.int k l)) (hhi:(chi=none∧h=len)∨∃ k,chi=some (.int k h)) (h0:0≤l) (h1:l≤h) (h2:h≤len) :
 (Instr.sliceBounds isS len cap clo chi none).run P w=.ok (l.toNat,h.toNat,cap) w:=by
 rcases hhi with⟨rfl,rfl⟩ | ⟨kh,rfl⟩ <;> rcases hlo with⟨rfl,rfl⟩ | ⟨kl,rfl⟩
 ·simp[Instr.sliceBounds]
 ·simp[Instr.sliceBounds,wW (P:=P) (w:=w) (k:=kl) (y:=len) h0 (by omega)]
 ·simp[Instr.sliceBounds,wW (P:=P) (w:=w) (k:=kh) (y:=cap) (by omega:0≤h) (by omega)]
 ·simp[Instr.sliceBounds,wW (P:=P) (w:=w) (k:=kh) (y:=cap) (by omega:0≤h) (by omega),wW (P:=P) (w:=w) (k:=kl) (y:=h.toNat) h0 (by omega)]
theorem zaY {P:Program}{w:World}{isS:Bool}{len cap:Nat}{clo chi:Option Value}(hlen:len≤cap){l h:Int}
 (hlo:(clo=none∧l=0)∨∃ k,clo=some (.int k l)) (hhi:(chi=none∧h=len)∨∃ k,chi=some (.int k h)) (h0:0≤l) (h1:l≤h) (h2:h≤cap) :
 (Instr.sliceBounds isS len cap clo chi none).run P w=.ok (l.toNat,h.toNat,cap) w:=by
 rcases hhi with⟨rfl,rfl⟩ | ⟨kh,rfl⟩ <;> rcases hlo with⟨rfl,rfl⟩ | ⟨kl,rfl⟩
 ·simp[Instr.sliceBounds]
 ·simp[Instr.sliceBounds,wW (P:=P) (w:=w) (k:=kl) (y:=len) h0 (by omega)]
 ·simp[Instr.sliceBounds,wW (P:=P) (w:=w) (k:=kh) (y:=cap) (by omega:0≤h) (by omega)]
 ·simp[Instr.sliceBounds,wW (P:=P) (w:=w) (k:=kh) (y:=cap) (by omega:0≤h) (by omega),wW (P:=P) (w:=w) (k:=kl) (y:=h.toNat) h0 (by omega)]
theorem zbm {k:K}{d:Nat}{q:Option Operand}{ev:Operand→V}{ρ:Operand→Value}(hev:∀ y,R k (ev y) (ρ y)){l:Int}(h:zab d (q.map ev)=some l) :
 (q.map ρ=none∧l=d)∨∃ kk,q.map ρ=some (.int kk l):=by
 cases q with
 | none=>simp only[Option.map_none,zab,Option.some.injEq] at h;exact .inl ⟨rfl,h.symm⟩
 | some y =>
   have hy:=hev y
   simp only[Option.map_some] at h ⊢
   cases hv:ev y <;> rw[hv] at h hy <;> simp only[zab,Option.some.injEq,reduceCtorEq] at h
   subst h
   exact .inr ⟨_,by rw[hy.int_inv]⟩
theorem zkM {P:Program}{k:K}(hk:HeapOk k){ρ:Operand→Value}{o:Oper}{t:TypeId}{x:Operand}{lo hi:Option Operand}(ho:o.op=.slice t x lo hi none)
 {ev:Operand→V} (hev:∀ y,R k (ev y) (ρ y)) {pre:Prop} {r:V} (h:kB P k.hp t (ev x) (lo.map ev) (hi.map ev)=some (pre,r)) (hp:pre) :
 ∃ cv,(execOp ρ o).run P k.w=.ok (.value cv) k.w∧R k r cv:=by
 have hx:=hev x
 generalize ev x=u at h hx
 unfold kB at h
 have key:∀ {n:Nat} {l hh:Int} {cap:Nat} {isS:Bool},n≤cap→zab 0 (lo.map ev)=some l→zab n (hi.map ev)=some hh→0≤l→l≤hh→hh≤n →
  (Instr.sliceBounds isS n cap (lo.map ρ) (hi.map ρ) none).run P k.w=.ok (l.toNat,hh.toNat,cap) k.w :=
  fun hc e1 e2 a b c=>zbE hc (by simpa using zbm hev e1) (zbm hev e2) a b c
 cases ht:P.underlying t with
 | none=>simp[ht] at h
 | some td =>
   cases td with
   | string =>
     simp only[ht] at h
     cases u with
     | str s =>
       simp only[zfq] at h
       split at h
       ·rename_i l hh e1 e2
        simp only[slV,Option.some.injEq,Prod.mk.injEq] at h
        obtain⟨rfl,rfl⟩:=h
        obtain⟨p1,p2,p3⟩:=hp
        have hb:=key (isS:=false) (Nat.le_refl s.length) e1 e2 p1 p2 p3
        have hz:(⟨s.toArray⟩:ByteArray).size=s.length:=by simp[ByteArray.size]
        have hex:(⟨s.toArray⟩:ByteArray).extract l.toNat hh.toNat=⟨((s.take hh.toNat).drop l.toNat).toArray⟩:=by
         apply ByteArray.ext
         rw[ByteArray.data_extract]
         simp[List.extract_eq_take_drop,List.drop_take]
        refine⟨.string ⟨((s.take hh.toNat).drop l.toNat).toArray⟩,?_,.str _⟩
        simp only[execOp,ho,Instr.sliceAt,Sem.run_bind,run_underlying ht,Result.andThen_ok,Instr.slice,hx.str_inv,Option.map_none,Option.isSome_none,Bool.false_eq_true,if_false,hz,hb,hex,Sem.run_pure]
       ·cases h
     | sl n sz get=>simp[zfq] at h;split at h <;> simp at h
     | msl l off len =>
       exfalso
       simp only[zfq] at h
       cases hq:k.hp l with
       | none=>simp[hq] at h
       | some ob=>cases ob <;> simp[hq] at h;split at h <;> simp at h
     | bsl l off len =>
       exfalso
       simp only[zfq] at h
       cases hq:k.hp l with
       | none=>simp[hq] at h
       | some ob=>cases ob <;> simp[hq] at h;split at h <;> simp at h
     | nils=>simp[zfq] at h;split at h <;> simp at h
     | _=>simp[zfq] at h
   | slice e =>
     simp only[ht] at h
     cases u with
     | sl n sz get =>
       simp only[zfq] at h
       split at h
       ·rename_i l hh e1 e2
        simp only[slV,Option.map_some,Option.some.injEq,Prod.mk.injEq] at h
        obtain⟨rfl,rfl⟩:=h
        obtain⟨⟨p1,p2,p3⟩,p4,p5⟩:=hp
        obtain⟨b,hb⟩:=Option.isSome_iff_exists.1 p5
        cases hq:ρ x with
        | slice oa len cap =>
          rw[hq] at hx
          cases hx with
          | sl0 =>
            have hbd:=key (isS:=true) (cap:=cap) (Nat.zero_le _) e1 e2 p1 p2 p3
            obtain rfl:l=0:=by omega
            obtain rfl:hh=0:=by omega
            exact⟨.slice (if cap=0 then oa else oa.map (fun x=>x.add 0)) 0 cap,by simp[execOp,ho,Instr.sliceAt,run_underlying ht,Instr.slice,hq,hbd,zD hb],.sl0 _ _ _ _⟩
          | sl _ _ _ bb off _ xx hM hbb hcap hpu hl hc hr =>
            have hbd:=key (isS:=true) hcap e1 e2 p1 p2 p3
            by_cases hz:hh.toNat - l.toNat=0
            ·rw[hz]
             refine⟨.slice (if cap=l.toNat then some ⟨bb,off,none⟩ else some ⟨bb,off+l.toNat * tsz P e,none⟩) 0 (cap - l.toNat),?_,.sl0 _ _ _ _⟩
             simp[execOp,ho,Instr.sliceAt,run_underlying ht,Instr.slice,hq,hbd,zD hb,hz,w5]
            ·refine⟨.slice (some ⟨bb,off+l.toNat * sz,none⟩) (hh.toNat - l.toNat) (cap - l.toNat),?_,.sl _ _ _ bb _ _ (fun i j=>xx (l.toNat+i) j) hM hbb (by omega) ?_ (fun i hi=>hl _ (by omega)) (fun i j hi hj=>?_) fun i j v hi hv=>hr _ j v (by omega) hv⟩
             ·have hne:cap≠l.toNat:=by omega
              simp[execOp,ho,Instr.sliceAt,run_underlying ht,Instr.slice,hq,hbd,zD hb,w5,hne,p4]
             ·cases hpu with
              | sl _ _ _ hpu=>exact .sl _ _ _ fun i j v hi hv=>hpu _ j v (by omega) hv
             ·rw[show off+l.toNat * sz+i * sz+j=off+(l.toNat+i) * sz+j by rw[Nat.add_mul];omega]
              exact hc _ j (by omega) hj
        | _=>rw[hq] at hx;cases hx
       ·cases h
     | msl l off len =>
       simp only[zfq] at h
       cases ho2:k.hp l with
       | none=>simp[ho2] at h
       | some ob =>
         cases ob with
         | cells cs=>simp[ho2] at h
         | dead=>simp[ho2] at h
         | raw r=>simp[ho2] at h
         | buf _ _ _=>simp[ho2] at h
         | arr n sz get =>
           simp only[ho2] at h
           split at h
           ·rename_i lo' hh e1 e2
            by_cases hpb:pslB (lo.map ev) (hi.map ev)=true
            ·rw[if_pos hpb] at h
             simp only[Option.some.injEq,Prod.mk.injEq] at h
             obtain⟨rfl,rfl⟩:=h
             obtain⟨⟨p1,p2,p6⟩,p4,p5⟩:=hp
             have hlo:lo'=0:=by
              unfold pslB at hpb
              split at hpb
              ·rename_i he _
               rw[he] at e1
               simp only[zab,Option.some.injEq] at e1
               exact e1.symm
              ·cases hpb
             subst hlo
             obtain⟨b,hb⟩:=Option.isSome_iff_exists.1 p5
             obtain⟨g1,g2,g3⟩:=hk.obj l _ ho2
             generalize hq:ρ x=cx at hx
             cases hx with
             | msl _ _ _ _ h1c hn hhh =>
               obtain⟨q1,q2⟩:=hhh _ _ _ ho2
               have hcx:=q2 p6
               cases hB:k.B l with
               | none =>
                 simp only[hB] at g3
                 simp only[hB,mslVal] at hcx
                 subst hcx
                 have hh0:hh=0:=by omega
                 have hlen0:len=0:=by omega
                 subst hh0
                 have hbd:=key (isS:=true) (cap:=0) (by omega:len≤0) e1 e2 (by omega) (by omega) (by omega)
                 rw[hlen0] at hbd
                 refine⟨.slice none 0 0,by simp[execOp,ho,Instr.sliceAt,run_underlying ht,Instr.slice,hq,hbd,zD hb],.psl _ _ _ _ _ rfl hn fun n' sz' get' hg'=>?_⟩
                 rw[ho2] at hg'
                 cases hg'
                 exact⟨Nat.le_refl _,by omega,fun _=>by simp[hB,mslVal]⟩
               | some bc =>
                 obtain⟨bb,c⟩:=bc
                 simp only[hB] at g3
                 simp only[hB,mslVal] at hcx
                 subst hcx
                 have hbd:=key (isS:=true) (cap:=c - off) (by omega:len≤c - off) e1 e2 (by omega) (by omega) (by omega)
                 refine⟨.slice (some ⟨bb,off * sz,none⟩) hh.toNat (c - off),?_,.psl _ _ _ _ _ rfl hn fun n' sz' get' hg'=>?_⟩
                 ·by_cases hne:c - off=0
                  ·rw[hne] at hbd
                   simp[execOp,ho,Instr.sliceAt,run_underlying ht,Instr.slice,hq,hbd,zD hb,w5,hne]
                  ·simp[execOp,ho,Instr.sliceAt,run_underlying ht,Instr.slice,hq,hbd,zD hb,w5,hne]
                 ·rw[ho2] at hg'
                  cases hg'
                  exact⟨Nat.le_refl _,by omega,fun _=>by simp[hB,mslVal]⟩
            rw[if_neg hpb] at h
            simp only[slV,ho2,Option.map_some,Option.some.injEq,Prod.mk.injEq] at h
            obtain⟨rfl,rfl⟩:=h
            obtain⟨⟨p1,p2,p3,p6⟩,p4,p5⟩:=hp
            obtain⟨b,hb⟩:=Option.isSome_iff_exists.1 p5
            obtain⟨g1,g2,g3⟩:=hk.obj l _ ho2
            generalize hq:ρ x=cx at hx
            cases hx with
            | msl _ _ _ _ h1c hn hhh =>
              obtain⟨q1,q2⟩:=hhh _ _ _ ho2
              have hcx:=q2 p6
              have hlen:(hh.toNat - lo'.toNat)+(off+lo'.toNat)=n:=by omega
              cases hB:k.B l with
              | none =>
                simp only[hB] at g3
                simp only[hB,mslVal] at hcx
                subst hcx
                obtain rfl:lo'=0:=by omega
                have hh0:hh=0:=by omega
                have hlen0:len=0:=by omega
                subst hh0
                have hbd:=key (isS:=true) (cap:=0) (by omega:len≤0) e1 e2 p1 (by omega) (by omega)
                rw[hlen0] at hbd
                refine⟨.slice none 0 0,by simp[execOp,ho,Instr.sliceAt,run_underlying ht,Instr.slice,hq,hbd,zD hb],.msl _ _ _ _ rfl hn fun n' sz' get' hg'=>?_⟩
                rw[ho2] at hg'
                cases hg'
                exact⟨by omega,fun _=>by simp[hB,mslVal]⟩
              | some bc =>
                obtain⟨bb,c⟩:=bc
                simp only[hB] at g3
                simp only[hB,mslVal] at hcx
                subst hcx
                have hbd:=key (isS:=true) (cap:=c - off) (by omega:len≤c - off) e1 e2 p1 (by omega) (by omega)
                have hlo:lo'.toNat≤len:=by omega
                by_cases hne:c - off=lo'.toNat
                ·obtain rfl:lo'=0:=by omega
                 have hoff:c - off=0:=by simpa using hne
                 rw[hoff] at hbd
                 refine⟨.slice (some ⟨bb,off * sz,none⟩) (hh.toNat - 0) (c - off),?_,.msl _ _ _ _ rfl hn fun n' sz' get' hg'=>?_⟩
                 ·simp[execOp,ho,Instr.sliceAt,run_underlying ht,Instr.slice,hq,hbd,zD hb,w5,hoff]
                 ·rw[ho2] at hg'
                  cases hg'
                  exact⟨by omega,fun _=>by simp[hB,mslVal]⟩
                ·refine⟨.slice (some ⟨bb,(off+lo'.toNat) * sz,none⟩) (hh.toNat - lo'.toNat) (c - off - lo'.toNat),?_,.msl _ _ _ _ rfl hn fun n' sz' get' hg'=>?_⟩
                 ·simp[execOp,ho,Instr.sliceAt,run_underlying ht,Instr.slice,hq,hbd,zD hb,w5,hne,p4,Nat.add_mul]
                 ·rw[ho2] at hg'
                  cases hg'
                  exact⟨by omega,fun _=>by simp[hB,mslVal,Nat.sub_sub]⟩
           ·cases h
     | bsl l off len =>
       simp only[zfq] at h
       cases ho2:k.hp l with
       | none=>simp[ho2] at h
       | some ob =>
         cases ob with
         | cells cs=>simp[ho2] at h
         | dead=>simp[ho2] at h
         | raw r=>simp[ho2] at h
         | arr _ _ _=>simp[ho2] at h
         | buf c sz get =>
           simp only[ho2] at h
           split at h
           ·rename_i lo' hh e1 e2
            simp only[slV,ho2,Option.map_some,Option.some.injEq,Prod.mk.injEq] at h
            obtain⟨rfl,rfl⟩:=h
            obtain⟨⟨p1,p2,p3,p6,p7⟩,p4,p5⟩:=hp
            obtain⟨b,hb⟩:=Option.isSome_iff_exists.1 p5
            generalize hq:ρ x=cx at hx
            cases hx with
            | bsl _ _ _ _ h1c hn hhh =>
              obtain⟨bb,q1,q2,hcx⟩:=hhh _ _ _ ho2
              subst hcx
              have hbd:(Instr.sliceBounds true len (c - off) (lo.map ρ) (hi.map ρ) none).run P k.w=.ok (lo'.toNat,hh.toNat,c - off) k.w :=
               zaY (by omega) (by simpa using zbm hev e1) (zbm hev e2) p1 p2 (by omega)
              by_cases hne:c - off=lo'.toNat
              ·obtain rfl:lo'=0:=by omega
               have hoff:c - off=0:=by simpa using hne
               rw[hoff] at hbd
               refine⟨.slice (some ⟨bb,off * sz,none⟩) (hh.toNat - 0) (c - off),?_,.bsl _ _ _ _ rfl hn fun c' sz' get' hg'=>?_⟩
               ·simp[execOp,ho,Instr.sliceAt,run_underlying ht,Instr.slice,hq,hbd,zD hb,w5,hoff]
               ·rw[ho2] at hg'
                cases hg'
                exact⟨bb,q1,by omega,by simp⟩
              ·refine⟨.slice (some ⟨bb,(off+lo'.toNat) * sz,none⟩) (hh.toNat - lo'.toNat) (c - off - lo'.toNat),?_,.bsl _ _ _ _ rfl hn fun c' sz' get' hg'=>?_⟩
               ·simp[execOp,ho,Instr.sliceAt,run_underlying ht,Instr.slice,hq,hbd,zD hb,w5,hne,p4,Nat.add_mul]
               ·rw[ho2] at hg'
                cases hg'
                exact⟨bb,q1,by omega,by simp[Nat.sub_sub]⟩
           ·cases h
     | str s=>simp[zfq] at h;split at h <;> simp at h
     | nils=>simp[zfq] at h;split at h <;> simp at h
     | _=>simp[zfq] at h
   | pointer a =>
     simp only[ht] at h
     split at h
     ·rename_i cs n e e1 e2 e3
      split at h
      ·rename_i hte
       simp only[Option.some.injEq,Prod.mk.injEq] at h
       obtain⟨rfl,rfl⟩:=h
       obtain⟨b,hb⟩:=Option.isSome_iff_exists.1 hte
       have hlo:lo=none:=by cases lo <;> simp_all
       have hhi:hi=none:=by cases hi <;> simp_all
       subst hlo
       subst hhi
       generalize hq:ρ x=cx at hx
       cases hx with
       | cptr _ bb off xx hM hbb hpu hc hr =>
         refine⟨.slice (some ⟨bb,off,none⟩) n n,?_,?_⟩
         ·have ha:(⟨bb,off,none⟩:Addr).add 0=⟨bb,off,none⟩:=w5 bb off 0
          simp[execOp,ho,Instr.sliceAt,run_underlying ht,Instr.slice,hq,asAddr,run_underlying e3,Instr.sliceBounds,zD hb,ha]
         ·have hlen:∀ i,i < n→i * tsz P e+tsz P e≤cs.length:=fun i hi=>by
           have:(i+1) * tsz P e≤n * tsz P e:=Nat.mul_le_mul_right _ (by omega)
           rw[Nat.add_mul] at this
           omega
          refine .sl _ _ _ bb off n (fun i j=>xx (i * tsz P e+j)) hM hbb (Nat.le_refl _) ?_ (fun i hi=>?_) (fun i j hi hj=>?_) fun i j v hi hv=>hr _ v (jn hv)
          ·cases hpu with
           | cptr _ hpu=>exact .sl _ _ _ fun i j v hi hv=>hpu _ v (jn hv)
          ·have:=hlen i hi
           simp[wa];omega
          ·have:=hlen i hi
           rw[show off+i * tsz P e+j=off+(i * tsz P e+j) by omega]
           exact hc _ (by omega)
      ·cases h
     ·cases h
   | array n e =>
     simp only[ht] at h
     split at h
     ·rename_i cs e1 e2
      split at h
      ·rename_i hte
       simp only[Option.some.injEq,Prod.mk.injEq] at h
       obtain⟨rfl,rfl⟩:=h
       obtain⟨b,hb⟩:=Option.isSome_iff_exists.1 hte
       have hlo:lo=none:=by cases lo <;> simp_all
       have hhi:hi=none:=by cases hi <;> simp_all
       subst hlo
       subst hhi
       generalize hq:ρ x=cx at hx
       cases hx with
       | cptr _ bb off xx hM hbb hpu hc hr =>
         refine⟨.slice (some ⟨bb,off,none⟩) n n,?_,?_⟩
         ·have ha:(⟨bb,off,none⟩:Addr).add 0=⟨bb,off,none⟩:=w5 bb off 0
          simp[execOp,ho,Instr.sliceAt,run_underlying ht,Instr.slice,hq,Instr.sureAddr,asAddr,Instr.sliceBounds,zD hb,ha]
         ·have hlen:∀ i,i < n→i * tsz P e+tsz P e≤cs.length:=fun i hi=>by
           have:(i+1) * tsz P e≤n * tsz P e:=Nat.mul_le_mul_right _ (by omega)
           rw[Nat.add_mul] at this
           omega
          refine .sl _ _ _ bb off n (fun i j=>xx (i * tsz P e+j)) hM hbb (Nat.le_refl _) ?_ (fun i hi=>?_) (fun i j hi hj=>?_) fun i j v hi hv=>hr _ v (jn hv)
          ·cases hpu with
           | cptr _ hpu=>exact .sl _ _ _ fun i j v hi hv=>hpu _ v (jn hv)
          ·have:=hlen i hi
           simp[wa];omega
          ·have:=hlen i hi
           rw[show off+i * tsz P e+j=off+(i * tsz P e+j) by omega]
           exact hc _ (by omega)
      ·cases h
     ·cases h
   | _=>simp[ht] at h
end Go.Fly
end
