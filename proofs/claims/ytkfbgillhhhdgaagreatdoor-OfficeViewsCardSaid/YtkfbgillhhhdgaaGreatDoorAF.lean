/- Part of a proof. No conditions. -/
import Derived.Test.YtkfbgillhhhdgaaGreatDoorAE
set_option linter.unusedSimpArgs false
set_option linter.unusedVariables false
section
namespace Go.Fly
open Go
abbrev zL:=Nat→List (List Nat)
def wD (D:zL):Code→Bool
 | .seq x y=>wD D x && wD D y
 | .cond _ x y=>wD D x && wD D y
 | .block _ c=>wD D c
 | .scope c=>wD D c
 | .loop c=>wD D c
 | .rangeFunc _ _ x y=>wD D x && wD D y
 | .region id ops true=>regOk ops (D id)
 | _=>true
def zB (X:Cx)(D:zL)(c:Code)(s:St)(Q:Exit→St→Prop):Prop:=wD D c=true→X.Ok→X.P.follows .mixedOrders=true→T X c s Q
noncomputable def exC (X:Cx) (D:zL):Code→St→(Exit→St→Prop)→Prop
 | .skip,s,Q=>Q .normal s
 | .label _,s,Q=>Q .normal s
 | .exit id,s,Q=>Q (.exit id) s
 | .ret,s,Q=>Q .ret s
 | .seq x y,s,Q=>exC X D x s (zer (fun s'=>exC X D y s' Q) Q)
 | .cond c x y,s,Q=>match ev X s c with
   | .bool t=>(t=true→exC X D x s Q)∧(t=false→exC X D y s Q)
   | _=>False
 | .block id c,s,Q=>exC X D c s (jB id Q)
 | .scope c,s,Q=>exC X D c s (zaR Q)
 | .region _ ops false,s,Q=>vB X ops ops.toList ⟨s.ck+1,s.tm,s.hp⟩ (Q .normal)
 | .region id ops true,s,Q=>exR X ops (D id) ⟨s.ck+1,s.tm,s.hp⟩ (Q .normal)
 | .loop c,s,Q=>zB X D (.loop c) s Q
 | .rangeFunc a b c d,s,Q=>zB X D (.rangeFunc a b c d) s Q
 | .goto _,_,_=>False
 | .refuse _,_,_=>False
theorem yk {X:Cx}(hX:X.Ok)(hm:X.P.follows .mixedOrders=true){D:zL}:∀ (c:Code) (s:St) (Q:Exit→St→Prop),wD D c=true→exC X D c s Q→T X c s Q
 | .skip,s,Q,_,h=>T.skip h
 | .label _,s,Q,_,h=>T.label h
 | .exit id,s,Q,_,h=>T.exit h
 | .ret,s,Q,_,h=>T.ret h
 | .seq x y,s,Q,hd,h=>by
   simp only[wD,Bool.and_eq_true] at hd
   exact T.seq (T.mono (yk hX hm x s _ hd.1 h) fun e s' q=>by cases e <;> first | exact q | exact yk hX hm y s' Q hd.2 q)
 | .cond c x y,s,Q,hd,h=>by
   simp only[wD,Bool.and_eq_true] at hd
   unfold exC at h
   cases hc:ev X s c with
   | bool t =>
     simp only[hc] at h
     exact T.cond hX hc (fun q=>yk hX hm x s Q hd.1 (h.1 q)) (fun q=>yk hX hm y s Q hd.2 (h.2 q))
   | _=>simp[hc] at h
 | .block id c,s,Q,hd,h=>T.block (yk hX hm c s _ hd h)
 | .scope c,s,Q,hd,h=>T.scope (yk hX hm c s _ hd h)
 | .region id ops false,s,Q,_,h=>T.region hX h
 | .region id ops true,s,Q,hd,h=>by
   simp only[wD] at hd
   exact T.any hX hm hd h
 | .loop c,s,Q,hd,h=>h hd hX hm
 | .rangeFunc _ _ _ _,s,Q,hd,h=>h hd hX hm
 | .goto _,s,Q,_,h=>h.elim
 | .refuse _,s,Q,_,h=>h.elim
theorem Holds.of_exC {P:Program}{G:Nat→V}{f:FuncId}{C:Contract}{fn:Func}{c:Code}(D:zL)(hf:P.funcs[f]?=some fn)(hb:fn.body=some c)(hm:P.follows .mixedOrders=true)(hd:wD D c=true)
 (Γ:FuncId→Option Contract) (hΓ:∀ g C,Γ g=some C→Holds P G g C) (hG:∀ g,Pu (G g)∨G g=.top)
 (h:∀ (k0:K) (rl:Loc) (args:List V),(∀ a∈args,Pu a)→(C rl args).pre→exC ⟨P,Γ,G,none,k0⟩ D c (St.enter args fn.ntmps) (retQ ⟨P,Γ,G,none,k0⟩ fn.results.toList rl (C rl args))) :
 Holds P G f C :=
 Holds.of_T hf hb Γ hΓ hG fun k0 rl args hX hpu hpre=>yk hX hm c _ _ hd (h k0 rl args hpu hpre)
def ObjLe:AObj→AObj→Prop
 | .arr n sz get,.arr n' sz' get'=>n=n'∧sz=sz'∧∀ i,i < n→get' i=get i
 | o,o'=>o=o'
theorem ObjLe.refl (o:AObj):ObjLe o o:=by cases o <;> simp[ObjLe]
theorem wu.weak {k0:K}{s s':St}(hck:s.ck≤s'.ck)(hlen:s'.tm.length=s.tm.length)(htm:∀ (d:Nat) (v':V),s'.tm[d]?=some v'→v'=V.top∨s.tm[d]?=some v')
 (hhp:∀ l o',s'.hp l=some o'→∃ o,s.hp l=some o∧ObjLe o o') (hnm:∀ l,(s.hp l).isSome=true→(s'.hp l).isSome=true∨s.ck < s'.ck):wu k0 s s':=by
 intro a w ⟨M,B,hst,hk,ht,hm⟩
 have hnm':∀ l,zjB s.ck s.hp l→zjB s'.ck s'.hp l:=by
  rintro l (q | ⟨q1,q2⟩)
  ·exact .inl (by omega)
  ·rcases hnm l q2 with h | h
   ·by_cases e:s.ck=s'.ck
    ·exact .inr ⟨by omega,h⟩
    ·exact .inl (by omega)
   ·exact .inl (by omega)
 have hown:∀ b,(mkK w M B s'.hp s'.ck).owned b→(mkK w M B s.hp s.ck).owned b:=by
  rintro b ⟨l,o',c,h1,h2⟩
  obtain⟨o,h3,_⟩:=hhp l o' h1
  exact⟨l,o,c,h3,h2⟩
 have st:Step (mkK w M B s.hp s.ck) (mkK w M B s'.hp s'.ck):=by
  refine⟨rfl,rfl,rfl,Nat.le_refl _,fun _ _ _=>rfl,fun b hb=>.inl (hown b hb),fun _ _ h=>h,fun _ _ _ h=>h,hnm',fun l hl o' ho'=>?_⟩
  obtain⟨o,h3,h4⟩:=hhp l o' ho'
  have q:=(Step.refl (mkK w M B s.hp s.ck)).names l hl o h3
  cases o' with
  | dead=>trivial
  | raw r=>trivial
  | cells cs=>cases o <;> simp[ObjLe] at h4;subst h4;exact q
  | buf _ _ _=>cases o <;> simp[ObjLe] at h4;obtain⟨rfl,rfl,rfl⟩:=h4;exact q
  | arr n' sz' get' =>
    cases o <;> simp[ObjLe] at h4
    obtain⟨rfl,rfl,h5⟩:=h4
    exact q
 have ho:∀ b,(mkK w M B s.hp s.ck).owned b→(mkK w M B s.hp s.ck).M b:=fun b hb=>(hk.own b hb).1
 refine⟨M,B,hst.trans st,⟨hk.lt,fun b hb=>hk.own b (hown b hb),fun l o' h=>?_,fun l1 l2 b c c' o1 o2 h1 h2 h3 h4=>?_,fun l o' h=>?_⟩,⟨hlen.trans ht.1,fun d v' hv=>?_⟩,hm.step st⟩
 ·obtain⟨o,h3,_⟩:=hhp l o' h
  exact hnm' l (hk.nm l o h3)
 ·obtain⟨o1',q1,_⟩:=hhp l1 o1 h1
  obtain⟨o2',q2,_⟩:=hhp l2 o2 h2
  exact hk.inj l1 l2 b c c' o1' o2' q1 q2 h3 h4
 ·obtain⟨o,h3,h4⟩:=hhp l o' h
  cases o' with
  | dead=>cases o <;> simp[ObjLe] at h4;exact ObjOk.step st hk h3 h rfl fun _ _ _=>rfl
  | raw r=>cases o <;> simp[ObjLe] at h4;subst h4;exact ObjOk.step st hk h3 h rfl fun _ _ _=>rfl
  | cells cs=>cases o <;> simp[ObjLe] at h4;subst h4;exact ObjOk.step st hk h3 h rfl fun _ _ _=>rfl
  | buf _ _ _=>cases o <;> simp[ObjLe] at h4;obtain⟨rfl,rfl,rfl⟩:=h4;exact ObjOk.step st hk h3 h rfl fun _ _ _=>rfl
  | arr n' sz' get' =>
    cases o with
    | arr n sz get =>
      simp only[ObjLe] at h4
      obtain⟨rfl,rfl,h5⟩:=h4
      obtain⟨g1,g2,g3⟩:=hk.obj l _ h3
      refine⟨fun i hi=>by rw[h5 i hi];exact g1 i hi,trivial,?_⟩
      show match B l with
       | none=>n=0
       | some (b,c)=>n≤c∧∃ xs ty fz,w.heap[b]?=some (.cells xs ty fz)∧(∀ o:Nat,¬ (fz.1≤o∧o < fz.2))∧xs.size=c * sz ∧
        ∀ (i j:Nat) (v:V),i < n→(get' i)[j]?=some v→R (mkK w M B s'.hp s'.ck) v (xs.getD (i * sz+j) undef)
      have g3':match B l with
       | none=>n=0
       | some (b,c)=>n≤c∧∃ xs ty fz,w.heap[b]?=some (.cells xs ty fz)∧(∀ o:Nat,¬ (fz.1≤o∧o < fz.2))∧xs.size=c * sz ∧
        ∀ (i j:Nat) (v:V),i < n→(get i)[j]?=some v→R (mkK w M B s.hp s.ck) v (xs.getD (i * sz+j) undef):=g3
      cases hB:B l with
      | none=>simpa [hB] using g3'
      | some bc =>
        obtain⟨b,c⟩:=bc
        simp only[hB] at g3' ⊢
        obtain⟨p1,xs,ty,fz,p2,p3,p4,p5⟩:=g3'
        exact⟨p1,xs,ty,fz,p2,p3,p4,fun i j v hi hv=>by rw[h5 i hi] at hv;exact(p5 i j v hi hv).step st ho⟩
    | _=>simp[ObjLe] at h4
 ·rcases htm d v' hv with rfl | h
  ·exact .top _
  ·exact(ht.2 d v' h).step st ho
def zho:List V→List V→Prop
 | [],[]=>True
 | v::l,v'::l'=>(v'=.top∨v=v')∧zho l l'
 | _,_=>False
theorem zho.spec:∀ {l l':List V},zho l l'→l'.length=l.length∧∀ (d:Nat) (v':V),l'[d]?=some v'→v'=V.top∨l[d]?=some v'
 | [],[],_=>⟨rfl,fun d v' h=>by simp at h⟩
 | v::l,v'::l',h=>by
   obtain⟨h1,h2⟩:=zho.spec h.2
   refine⟨by simp[h1],fun d u hu=>?_⟩
   cases d with
   | zero =>
     simp only[List.getElem?_cons_zero,Option.some.injEq] at hu ⊢
     subst hu
     exact h.1
   | succ d=>simpa using h2 d u (by simpa using hu)
 | [],_::_,h=>h.elim
 | _::_,[],h=>h.elim
theorem wu.nilArr {k0:K}{s:St}{d:Nat}{l:Loc}(sz:Nat)(get:Nat→List V)(hd:s.tm[d]?=some .nils)(hl:s.hp l=none)(hck:l.1=s.ck) :
 wu k0 s ⟨s.ck,s.tm.set d (.msl l 0 0),updH s.hp l (.arr 0 sz get)⟩:=by
 intro a w ⟨M,B,hst,hk,ht,hm⟩
 obtain⟨q1,q2,q3⟩:=zgE hk (l:=l) hl hck sz get
 have ho:∀ b,(mkK w M B s.hp s.ck).owned b→(mkK w M B s.hp s.ck).M b:=fun b hb=>(hk.own b hb).1
 refine⟨M,yl B l none,hst.trans q1,q2,⟨by simpa using ht.1,fun t v hv=>?_⟩,hm.step q1⟩
 rw[List.getElem?_set] at hv
 by_cases e:d=t
 ·subst e
  have hlt:=(List.getElem?_eq_some_iff.1 hd).1
  simp only[if_true,hlt,Option.some.injEq] at hv
  subst hv
  have:=(ht.2 d _ hd).nils_inv
  rw[this]
  exact q3
 ·simp only[e,if_false] at hv
  exact(ht.2 t v hv).step q1 ho
theorem wu.kill {k0:K}{s:St}{d:Nat}{l:Loc}{n sz:Nat}{get:Nat→List V}(hd:s.tm[d]?=some (.msl l 0 n))(hl:s.hp l=some (.arr n sz get))(hpr:∀ (i j:Nat) (v:V),i < n→(get i)[j]?=some v→Pu v) :
 wu k0 s ⟨s.ck,s.tm.set d (.sl n sz get),updH s.hp l .dead⟩:=by
 intro a w ⟨M,B,hst,hk,ht,hm⟩
 obtain⟨M',B',q1,q2,q3⟩:=zc1 hk hl hpr
 have ho:∀ b,(mkK w M B s.hp s.ck).owned b→(mkK w M B s.hp s.ck).M b:=fun b hb=>(hk.own b hb).1
 refine⟨M',B',hst.trans q1,q2,⟨by simpa using ht.1,fun t v hv=>?_⟩,hm.step q1⟩
 rw[List.getElem?_set] at hv
 by_cases e:d=t
 ·subst e
  have hlt:=(List.getElem?_eq_some_iff.1 hd).1
  simp only[if_true,hlt,Option.some.injEq] at hv
  subst hv
  exact q3 _ (ht.2 d _ hd)
 ·simp only[e,if_false] at hv
  exact(ht.2 t v hv).step q1 ho
theorem zB.ents {X:Cx}{D:zL}{c:Code}{s s':St}{Q:Exit→St→Prop}(he:wu X.k0 s s')(h:zB X D c s' Q):zB X D c s Q:=fun hd hX hm=>T.ents he (h hd hX hm)
end Go.Fly
end
