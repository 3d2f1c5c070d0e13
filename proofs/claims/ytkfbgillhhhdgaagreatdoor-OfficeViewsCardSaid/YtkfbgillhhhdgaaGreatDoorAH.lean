/- Part of a proof. No conditions. -/
import Derived.Test.YtkfbgillhhhdgaaGreatDoorAG
import Derived.OpenShut
set_option linter.unusedSimpArgs false
set_option linter.unusedVariables false
section
namespace Go.Fly
open Go
def tops:List Nat→List V→List V
 | [],tm=>tm
 | d::ds,tm=>tops ds (tm.set d .top)
def sets:List (Nat×V)→List V→List V
 | [],tm=>tm
 | (d,v)::ds,tm=>sets ds (tm.set d v)
def zy (hp hp':Heap):Prop:=∀ l o',hp' l=some o'→∃ o,hp l=some o∧ObjLe o o'
theorem zy.none {hp:Heap}:zy hp (fun _=>Option.none):=fun l o h=>by cases h
theorem zy.refl (hp:Heap):zy hp hp:=fun l o h=>⟨o,h,ObjLe.refl o⟩
theorem zy.upd {hp hp':Heap}{l:Loc}{o':AObj}(h:zy hp hp')(ho:∃ o,hp l=some o∧ObjLe o o'):zy hp (updH hp' l o'):=by
 intro l' o h'
 by_cases e:l'=l
 ·subst e;rw[zd] at h';cases h';exact ho
 ·rw[zc e] at h';exact h l' o h'
theorem wu.go {k0:K}{ck:Nat}{tm tm':List V}{hp hp':Heap}(h:zho tm tm')(hh:zy hp hp'):wu k0 ⟨ck,tm,hp⟩ ⟨ck+1,tm',hp'⟩ :=
 wu.weak (Nat.le_succ _) h.spec.1 h.spec.2 hh fun l _=>.inr (Nat.lt_succ_self _)
theorem zB.loopI {X:Cx}{D:zL}{c:Code}{ck:Nat}{tm:List V}{hp:Heap}{Q:Exit→St→Prop}{β:Type}(dead:List Nat)(live:β→List (Nat×V))(hpf:β→Heap)(Inv:β→Prop)(μ:β→Nat)(b0:β)
 (hI:Inv b0) (h0:zho tm (sets (live b0) (tops dead tm))) (hh:zy hp (hpf b0))
 (round:∀ ck' b,ck≤ck'→Inv b→exC X D c ⟨ck',sets (live b) (tops dead tm),hpf b⟩
  (zer (fun s'=>ck≤s'.ck∧∃ b',Inv b'∧μ b' < μ b∧zho s'.tm (sets (live b') (tops dead tm))∧zy s'.hp (hpf b')) Q)):zB X D (.loop c) ⟨ck,tm,hp⟩ Q:=by
 intro hd hX hm
 refine T.loop (α:={ x:Nat×β // ck≤x.1∧Inv x.2 }) (fun x=>⟨x.1.1,sets (live x.1.2) (tops dead tm),hpf x.1.2⟩) (fun x=>μ x.1.2) ⟨(ck+1,b0),by simp,hI⟩ (wu.go h0 hh) ?_
 rintro⟨⟨ck',b⟩,h1,h2⟩
 refine T.mono (yk hX hm c _ _ hd (round ck' b h1 h2)) fun e s' q=>?_
 cases e with
 | normal =>
   obtain⟨q1,b',q2,q3,q4,q5⟩:=q
   obtain⟨c1,t1,p1⟩:=s'
   exact⟨⟨(c1+1,b'),by simp at q1 ⊢;omega,q2⟩,wu.go q4 q5,q3⟩
 | _=>exact q
theorem zo.sl {n sz:Nat}{get get':Nat→List V}(h:∀ i,i < n→get i=get' i):zo (.sl n sz get) (.sl n sz get'):=by
 intro k cv hr
 cases hr with
 | sl0=>exact .sl0 _ _ _ _
 | sl _ _ _ b off cap x hM hb hcap hp hl hc hr =>
   refine .sl _ _ _ b off cap x hM hb hcap ?_ (fun i hi=>by rw[← h i hi];exact hl i hi) hc fun i j v hi hv=>hr i j v hi (by rw[h i hi];exact hv)
   cases hp with
   | sl _ _ _ hp=>exact .sl _ _ _ fun i j v hi hv=>hp i j v hi (by rw[h i hi];exact hv)
theorem zo.nils (sz:Nat)(get:Nat→List V):zo .nils (.sl 0 sz get):=fun k cv h=>by
 rw[h.nils_inv];exact .sl0 _ _ _ _
def LEnt:List V→List V→Prop
 | [],[]=>True
 | v::l,v'::l'=>zo v v'∧LEnt l l'
 | _,_=>False
theorem LEnt.spec:∀ {l l':List V},LEnt l l'→l'.length=l.length∧∀ (j:Nat) (v':V),l'[j]?=some v'→∃ v,l[j]?=some v∧zo v v'
 | [],[],_=>⟨rfl,fun j v h=>by simp at h⟩
 | v::l,v'::l',h=>by
   obtain⟨h1,h2⟩:=LEnt.spec h.2
   refine⟨by simp[h1],fun j u hu=>?_⟩
   cases j with
   | zero =>
     simp only[List.getElem?_cons_zero,Option.some.injEq] at hu ⊢
     subst hu
     exact⟨v,rfl,h.1⟩
   | succ j=>simpa using h2 j u (by simpa using hu)
 | [],_::_,h=>h.elim
 | _::_,[],h=>h.elim
theorem zo.tup {l l':List V}(h:LEnt l l'):zo (.tup l) (.tup l'):=by
 intro k cv hr
 obtain⟨h1,h2⟩:=h.spec
 obtain⟨xs,rfl,hs,hv⟩:=hr.tup_inv
 refine .tup _ _ (by rw[hs,h1]) fun j v' hv'=>?_
 obtain⟨v,g1,g2⟩:=h2 j v' hv'
 exact g2 _ _ (hv j v g1)
theorem zo.agg {l l':List V}(h:LEnt l l'):zo (.agg l) (.agg l'):=by
 intro k cv hr
 obtain⟨h1,h2⟩:=h.spec
 obtain⟨xs,rfl,hs,hv⟩:=hr.agg_inv
 refine .agg _ _ (by rw[hs,h1]) fun j v' hv'=>?_
 obtain⟨v,g1,g2⟩:=h2 j v' hv'
 exact g2 _ _ (hv j v g1)
def tab:List (FuncId×Contract)→FuncId→Option Contract
 | [],_=>none
 | (g,C)::l,f=>if f=g then some C else tab l f
def TabOk (P:Program)(G:Nat→V):List (FuncId×Contract)→Prop
 | []=>True
 | (g,C)::l=>Holds P G g C∧TabOk P G l
theorem tab_okG {P:Program}{G:Nat→V}{l:List (FuncId×Contract)}(h:TabOk P G l):∀ g C,tab l g=some C→Holds P G g C:=by
 induction l with
 | nil=>intro g C h;cases h
 | cons p l ih =>
   obtain⟨g',C'⟩:=p
   intro g C hg
   unfold tab at hg
   split at hg
   ·rename_i e;cases hg;subst e;exact h.1
   ·exact ih h.2 g C hg
attribute [go_sem] tab tops sets
theorem zn {n:Int}(h:-9223372036854775808≤n)(h':n≤9223372036854775807):inK .i64 n:=⟨h,h'⟩
def vR (get:Nat→List V)(i:Nat):Int:=match get i with | [.int _ x]=>x | _=>0
def cell (get:Nat→List V)(i j:Nat):Int:=match (get i)[j]? with | some (.int _ x)=>x | _=>0
def zdi (n:Nat)(get:Nat→List V):Prop:=n≤9223372036854775807∧∀ i,i < n→get i=[.int .i64 (vR get i)]
def IsIv (n:Nat)(get:Nat→List V):Prop:=n≤9223372036854775807∧∀ i,i < n→get i=[.int .i64 (cell get i 0),.int .i64 (cell get i 1)]
def inN (get:Nat→List V)(i j:Nat):Nat:=match (get i)[j]? with | some (.sl m _ _)=>m | _=>0
def inG (get:Nat→List V)(i j:Nat):Nat→List V:=match (get i)[j]? with | some (.sl _ _ g)=>g | _=>fun _=>[]
theorem IsIv.pu {n:Nat}{get:Nat→List V}(h:IsIv n get):Pu (.sl n 2 get):=vW.2 fun i hi v hv=>by
 rw[h.2 i hi] at hv
 simp only[List.mem_cons,List.not_mem_nil,or_false] at hv
 rcases hv with rfl | rfl <;> exact .int _ _
def yZ (g:Nat→Int):Nat→Nat→Int
 | i,0=>0
 | i,k+1=>if g i≠0 then g i else yZ g (i+1) k
def zv:List Int→Int
 | []=>0
 | x::l=>if x≠0 then x else zv l
theorem zc9 {g:Nat→Int}{i n:Nat}(h:i < n):yZ g i (n - i)=if g i≠0 then g i else yZ g (i+1) (n - (i+1)):=by
 rw[show n - i=(n - (i+1))+1 by omega];rfl
theorem zd6 {g:Nat→Int}{i n:Nat}(h:¬ i < n):yZ g i (n - i)=0:=by
 rw[show n - i=0 by omega];rfl
theorem wb:∀ {l:List Int},zv l=0↔∀ x∈l,x=0
 | []=>by simp[zv]
 | x::l=>by
   unfold zv
   by_cases h:x=0
   ·simp only[h,ne_eq,not_true_eq_false,if_false,List.mem_cons,forall_eq_or_imp,true_and]
    exact wb
   ·simp[h]
theorem ke:∀ (l:List Int) (g:Nat→Int) (i:Nat),(∀ j,j < l.length→g (i+j)=l.getD j 0)→yZ g i l.length=zv l
 | [],g,i,_=>rfl
 | x::l,g,i,h=>by
   have h0:g i=x:=by simpa using h 0 (by simp)
   have:=ke l g (i+1) fun j hj=>by
    have:=h (j+1) (by simpa using hj)
    rw[show i+1+j=i+(j+1) by omega,this]
    simp
   simp only[List.length_cons,yZ,zv,h0,this]
theorem zkW (l:List Int)(i:Nat)(hi:i < l.length):wa (l.map (V.int .i64)) 1 i=[.int .i64 (l.getD i 0)]:=by
 rw[zkX,Nat.mul_one]
 apply List.ext_getElem?
 intro j
 cases j with
 | zero=>simp[hi]
 | succ j=>simp;omega
theorem vI (l:List Int)(n:Nat)(hn:n=l.length)(hb:l.length≤1000000000000):zdi n (fun i=>wa (l.map (V.int .i64)) 1 (0+i))∧yZ (vR (fun i=>wa (l.map (V.int .i64)) 1 (0+i))) 0 n=zv l:=by
 subst hn
 have h1:∀ i,i < l.length→vR (fun i=>wa (l.map (V.int .i64)) 1 (0+i)) i=l.getD i 0:=fun i hi=>by
  simp only[vR,Nat.zero_add,zkW l i hi]
 refine⟨⟨by omega,fun i hi=>?_⟩,ke l _ 0 fun j hj=>by rw[Nat.zero_add];exact h1 j hj⟩
 rw[h1 i hi]
 simp only[Nat.zero_add,zkW l i hi]
theorem zjW (a0 a1:Int):yZ (vR fun i=>wa [V.int .i64 a0,V.int .i64 a1] 1 (0+i)) 0 2=zv [a0,a1]:=(vI [a0,a1] 2 rfl (by simp)).2
theorem zgW (a0 a1:Int):(zdi 2 fun i=>wa [V.int .i64 a0,V.int .i64 a1] 1 (0+i))↔True:=iff_true_intro (vI [a0,a1] 2 rfl (by simp)).1
theorem zjV (a0 a1 a2:Int):yZ (vR fun i=>wa [V.int .i64 a0,V.int .i64 a1,V.int .i64 a2] 1 (0+i)) 0 3=zv [a0,a1,a2]:=(vI [a0,a1,a2] 3 rfl (by simp)).2
theorem zgV (a0 a1 a2:Int):(zdi 3 fun i=>wa [V.int .i64 a0,V.int .i64 a1,V.int .i64 a2] 1 (0+i))↔True:=iff_true_intro (vI [a0,a1,a2] 3 rfl (by simp)).1
theorem zjU (a0 a1 a2 a3 a4:Int):yZ (vR fun i=>wa [V.int .i64 a0,V.int .i64 a1,V.int .i64 a2,V.int .i64 a3,V.int .i64 a4] 1 (0+i)) 0 5=zv [a0,a1,a2,a3,a4]:=(vI [a0,a1,a2,a3,a4] 5 rfl (by simp)).2
theorem zgU (a0 a1 a2 a3 a4:Int):(zdi 5 fun i=>wa [V.int .i64 a0,V.int .i64 a1,V.int .i64 a2,V.int .i64 a3,V.int .i64 a4] 1 (0+i))↔True:=iff_true_intro (vI [a0,a1,a2,a3,a4] 5 rfl (by simp)).1
attribute [go_sem] zjW zgW zjV zgV zjU zgU
theorem pu_sl1 (n sz:Nat)(k:IntKind)(f:Nat→Int):Pu (.sl n sz fun i=>[.int k (f i)])↔True:=iff_true_intro (vW.2 fun i _ v hv=>by rw[List.mem_singleton.1 hv];exact .int _ _)
theorem intAt_fn (k:IntKind)(f:Nat→Int):vR (fun i=>[.int k (f i)])=f:=rfl
theorem zga:Int.toNat 0=0:=rfl
attribute [go_sem] Int.reduceToNat zga pu_sl1 intAt_fn forall_eq_or_imp forall_eq List.all_cons List.all_nil Bool.and_true Bool.true_and Bool.and_self zG
def rng (x a b:Int):Int:=if x < a∨b < x then 3 else 0
def err (c:Bool)(e:Int):Int:=if c=true then e else 0
theorem y6 {x a b:Int}:rng x a b=0↔a≤x∧x≤b:=by unfold rng;split <;> omega
theorem w4 {c:Bool}{e:Int}(h:e≠0):err c e=0↔c=false:=by unfold err;cases c <;> simp[h]
def yf:Contract:=fun _ args =>
 match args with
 | [.bool b,.int .i64 e]=>⟨True,.int .i64 (err b e),none⟩
 | _=>⟨False,.top,none⟩
def yb:Contract:=fun _ args =>
 match args with
 | [.int .i64 n,.int .i64 a,.int .i64 b]=>⟨True,.int .i64 (rng n a b),none⟩
 | _=>⟨False,.top,none⟩
def w7:Contract:=fun _ args =>
 match args with
 | [.sl n sz get]=>⟨sz=1∧zdi n get,.int .i64 (yZ (vR get) 0 n),none⟩
 | _=>⟨False,.top,none⟩
attribute [go_sem] yf yb w7
def zfz (f:Int→Int):Contract:=fun _ args =>
 match args with
 | [.int .i64 x]=>⟨True,.int .i64 (f x),none⟩
 | _=>⟨False,.top,none⟩
attribute [go_sem] zfz
end Go.Fly
end
