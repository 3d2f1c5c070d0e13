/- Part of a proof. No conditions. -/
import Derived.Test.YtkfbgillhhhdgaaGreatDoorAZ
import Derived.Test.YtkfbgillhhhdgaaGreatDoorAY
set_option linter.unusedSimpArgs false
set_option linter.unusedVariables false
namespace Go.Fly
open Go
theorem wu.shrinkT {k0:K}{s:St}{l l':Loc}{n m sz:Nat}{get:Nat→List V}{d:Nat}(hl:s.hp l=some (.arr n sz get))(hmn:m≤n)(hl':s.hp l'=none)(hck:l'.1=s.ck)(hd:s.tm[d]?=some (.psl l n 0 m)) :
 wu k0 s ⟨s.ck,s.tm.set d (.msl l' 0 m),updH (updH s.hp l .dead) l' (.arr m sz get)⟩:=by
 intro a w ⟨M,B,hst,hk,ht,hm⟩
 obtain⟨B',q0,q1,q2,q3⟩:=zeD hk hl hmn hl' hck
 have ho:∀ b,(mkK w M B s.hp s.ck).owned b→(mkK w M B s.hp s.ck).M b:=fun b hb=>(hk.own b hb).1
 refine⟨M,B',hst.trans q1,q2,⟨by simpa using ht.1,fun t v hv=>?_⟩,hm.step q1⟩
 rw[List.getElem?_set] at hv
 by_cases e:d=t
 ·subst e
  have hlt:=(List.getElem?_eq_some_iff.1 hd).1
  simp only[if_true,hlt,Option.some.injEq] at hv
  subst hv
  exact q3 _ (ht.2 d _ hd)
 ·simp only[e,if_false] at hv
  exact(ht.2 t v hv).step q1 ho
theorem wu.cellsV {k0:K}{s:St}{l2:Loc}{cs cs':List V}(hc:s.hp l2=some (.cells cs))(h:LEnt cs cs') :
 wu k0 s ⟨s.ck,s.tm,updH s.hp l2 (.cells cs')⟩:=by
 intro a w ⟨M,B,hst,hk,ht,hm⟩
 have ho:∀ b,(mkK w M B s.hp s.ck).owned b→(mkK w M B s.hp s.ck).M b:=fun b hb=>(hk.own b hb).1
 obtain⟨h1,h2⟩:=h.spec
 obtain⟨b,c,xs,ty,fz,g1,g2,g3,g4,g5⟩:=hk.obj l2 _ hc
 obtain⟨p1,p2⟩:=vi hk (l:=l2) hc (o':=.cells cs') g1 ⟨⟨cs,rfl⟩,rfl⟩ (w':=w) ⟨rfl,rfl,rfl,rfl⟩ (fun _ _=>rfl)
  (fun k' hw hB' st=>⟨b,c,xs,ty,fz,hB',by rw[hw];exact g2,g3,by rw[g4,h1],fun i v hv=>by
   obtain⟨u,q1,q2⟩:=h2 i v hv
   exact q2 _ _ ((g5 i u q1).step st ho)⟩)
 exact⟨M,B,hst.trans p1,p2,ht.step p1 ho,hm.step p1⟩
def WkR (X:Cx)(D:zL)(c:Code)(s:St)(Q:Exit→St→Prop):Prop:=∃ s2,wu X.k0 s s2∧exC X D c s2 Q
noncomputable def exW (X:Cx) (D:zL) (r:Nat):Code→St→(Exit→St→Prop)→Prop
 | .seq x y,s,Q=>exW X D r x s (zer (fun s'=>exW X D r y s' Q) Q)
 | .cond c x y,s,Q=>cB (ev X s c) (exW X D r x s Q) (exW X D r y s Q)
 | .block id c,s,Q=>exW X D r c s (jB id Q)
 | .region id ops b,s,Q=>if id=r then WkR X D (.region id ops b) s Q else exC X D (.region id ops b) s Q
 | c,s,Q=>exC X D c s Q
theorem zd8 {X:Cx}(hX:X.Ok)(hm:X.P.follows .mixedOrders=true){D:zL}{r:Nat}:∀ (c:Code) (s:St) (Q:Exit→St→Prop),wD D c=true→exW X D r c s Q→T X c s Q
 | .skip,s,Q,hd,h=>yk hX hm _ _ _ hd h
 | .label _,s,Q,hd,h=>yk hX hm _ _ _ hd h
 | .exit id,s,Q,hd,h=>yk hX hm _ _ _ hd h
 | .ret,s,Q,hd,h=>yk hX hm _ _ _ hd h
 | .seq x y,s,Q,hd,h=>by
   simp only[wD,Bool.and_eq_true] at hd
   exact T.seq (T.mono (zd8 hX hm x s _ hd.1 h) fun e s' q=>by cases e <;> first | exact q | exact zd8 hX hm y s' Q hd.2 q)
 | .cond c x y,s,Q,hd,h=>by
   simp only[wD,Bool.and_eq_true] at hd
   have h:cB (ev X s c) (exW X D r x s Q) (exW X D r y s Q):=h
   unfold cB at h
   cases hc:ev X s c with
   | bool t =>
     simp only[hc] at h
     exact T.cond hX hc (fun q=>zd8 hX hm x s Q hd.1 (h.1 q)) (fun q=>zd8 hX hm y s Q hd.2 (h.2 q))
   | _=>simp[hc] at h
 | .block id c,s,Q,hd,h=>T.block (zd8 hX hm c s _ hd h)
 | .scope c,s,Q,hd,h=>yk hX hm _ _ _ hd h
 | .region id ops b,s,Q,hd,h=>by
   unfold exW at h
   split at h
   ·obtain⟨s2,h1,h2⟩:=h
    exact T.ents h1 (yk hX hm _ _ _ hd h2)
   ·exact yk hX hm _ _ _ hd h
 | .loop c,s,Q,hd,h=>yk hX hm _ _ _ hd h
 | .rangeFunc _ _ _ _,s,Q,hd,h=>yk hX hm _ _ _ hd h
 | .goto _,s,Q,hd,h=>yk hX hm _ _ _ hd h
 | .refuse _,s,Q,hd,h=>yk hX hm _ _ _ hd h
theorem exW_skip {X:Cx}{D:zL}{r:Nat}{s:St}{Q:Exit→St→Prop}:exW X D r .skip s Q=Q .normal s:=ziH
theorem exW_exit {X:Cx}{D:zL}{r l:Nat}{s:St}{Q:Exit→St→Prop}:exW X D r (.exit l) s Q=Q (.exit l) s:=ziI
theorem exW_ret {X:Cx}{D:zL}{r:Nat}{s:St}{Q:Exit→St→Prop}:exW X D r .ret s Q=Q .ret s:=zmO
theorem exW_seq {X:Cx}{D:zL}{r:Nat}{x y:Code}{s:St}{Q:Exit→St→Prop}:exW X D r (.seq x y) s Q=exW X D r x s (zer (fun s'=>exW X D r y s' Q) Q):=by rw[exW]
theorem exW_cond {X:Cx}{D:zL}{r:Nat}{c:Operand}{x y:Code}{s:St}{Q:Exit→St→Prop}:exW X D r (.cond c x y) s Q=cB (ev X s c) (exW X D r x s Q) (exW X D r y s Q):=by rw[exW]
theorem zmK {X:Cx}{D:zL}{r id:Nat}{c:Code}{s:St}{Q:Exit→St→Prop}:exW X D r (.block id c) s Q=exW X D r c s (jB id Q):=by rw[exW]
theorem zW {X:Cx}{D:zL}{r id:Nat}{ops:Array Oper}{b:Bool}{s:St}{Q:Exit→St→Prop}(h:¬ id=r):exW X D r (.region id ops b) s Q=exC X D (.region id ops b) s Q:=by rw[exW,if_neg h]
theorem exW_eq {X:Cx}{D:zL}{r:Nat}{ops:Array Oper}{b:Bool}{s:St}{Q:Exit→St→Prop}:exW X D r (.region r ops b) s Q=WkR X D (.region r ops b) s Q:=by rw[exW,if_pos rfl]
@[congr] theorem exW_congr {X:Cx}{D:zL}{r:Nat}{c:Code}{s s':St}{Q:Exit→St→Prop}(h3:s=s'):exW X D r c s Q=exW X D r c s' Q:=by subst h3;rfl
@[congr] theorem WkR_congr {X:Cx}{D:zL}{c:Code}{s s':St}{Q:Exit→St→Prop}(h3:s=s'):WkR X D c s Q=WkR X D c s' Q:=by subst h3;rfl
attribute [go_sem] exW_skip exW_exit exW_ret exW_seq exW_cond zmK exW_eq
theorem zB.loopW {X:Cx}{D:zL}{c:Code}{ck n:Nat}{f:Nat→V}{hp:Heap}{Q:Exit→St→Prop}{β:Type}(r:Nat)(dead:List (Nat×Nat))(live:β→List (Nat×V))(hpf:β→Heap)(Inv:Nat→β→Prop)(μ:β→Nat)(b0:β)
 (hI:Inv (ck+1) b0) (h0:eqL f (live b0)) (hh:zy hp (hpf b0))
 (round:∀ ck' b,ck < ck'→Inv ck' b→exW X D r c ⟨ck',mkT n (zg3 (live b) (zb8 dead f)),hpf b⟩
  (zer (fun s'=>∃ s2,wu X.k0 s' s2∧ck≤s2.ck∧∃ b',Inv (s2.ck+1) b'∧μ b' < μ b∧LeT s2.tm n (live b') dead f∧zy s2.hp (hpf b')) fun e s'=>∃ s2,wu X.k0 s' s2∧Q e s2)):zB X D (.loop c) ⟨ck,mkT n f,hp⟩ Q:=by
 intro hd hX hm
 refine T.post (T.loop (α:={ x:Nat×β // ck < x.1∧Inv x.1 x.2 }) (fun x=>⟨x.1.1,mkT n (zg3 (live x.1.2) (zb8 dead f)),hpf x.1.2⟩) (fun x=>μ x.1.2) ⟨(ck+1,b0),by simp,hI⟩ (wu.go (LeT.start h0) hh) ?_)
 rintro⟨⟨ck',b⟩,h1,h2⟩
 refine T.mono (zd8 hX hm c _ _ hd (round ck' b h1 h2)) fun e s' q=>?_
 cases e with
 | normal =>
   obtain⟨s2,q0,q1,b',q2,q3,q4,q5⟩:=q
   obtain⟨c1,t1,p1⟩:=s2
   exact⟨⟨(c1+1,b'),by simp at q1 ⊢;omega,q2⟩,wu.trans q0 (wu.go q4.le q5),q3⟩
 | _=>exact q
end Go.Fly
namespace Go.Fly.Off
open Go
theorem zb6 {s:Str}:kindOf s=some .undo↔s=[117,110,100,111]:=by
 constructor
 ·intro h;exact kZ h
 ·rintro rfl;rfl
theorem HOk.heb {h:Hist}(q:HOk levelE h):HeB h.now:=by
 rw[q.now]
 have:=q.cnt.heb (Nat.le_refl h.counted.length)
 rwa [List.take_length] at this
theorem HOk.anb {h:Hist}(q:HOk levelE h):AnB h.now:=by
 rw[q.now]
 have:=q.cnt.anb (Nat.le_refl h.counted.length)
 rwa [List.take_length] at this
theorem zit {h:Hist}{i:Nat}(hi:h.events.length=i)(e:Ev):zT (zc5 (i:Int) h.counted h.now) e=zT h e:=zkg e (by unfold zc5;rw[List.length_replicate,Int.toNat_natCast,hi]) rfl rfl
theorem zbb:LEnt [.int .i64 0,.nils,.nils,.nils,.nils,.nils,.nils,.int .i64 0] (zt {}) :=
 ⟨zo.refl _,zo.nils _ _,zo.nils _ _,zo.nils _ _,zo.nils _ _,zo.nils _ _,zo.nils _ _,zo.refl _,trivial⟩
theorem zbF:zo (.agg [.int .i64 0,.nils,.nils,.nils,.nils,.nils,.nils,.int .i64 0]) (.agg (zt {})):=zo.agg zbb
theorem reg_len8 (r:Reg):(zt r).length=8:=rfl
theorem reg_allC (r:Reg):(zt r).all jM=true:=rfl
theorem zl2 (a b:Reg):qa (zt a) 0 (zt b)=zt b:=rfl
theorem zjg {a b c d e f g h:V}(r:Reg):qa [a,b,c,d,e,f,g,h] 0 (zt r)=zt r:=rfl
theorem zl1 (r:Reg):List.take 8 (zt r)=zt r:=rfl
attribute [go_sem] zl1 reg_len8 reg_allC zl2 zjg
theorem ev_len5 (e:Ev):(encEv e).length=5:=rfl
theorem ev_take5 (e:Ev):List.take 5 (encEv e)=encEv e:=rfl
theorem ev_allC (e:Ev):(encEv e).all jM=true:=rfl
theorem ev_drop1 (e:Ev):List.drop 1 (encEv e)=[.str e.kind,zg e.names,zh e.vals,.str e.text]:=rfl
theorem zjH {n:Nat}{hp:Heap}(e:Ev):(encEv e).map (frz (n+1) hp)=encEv e:=(List.map_congr_left fun v hv=>v7 ((yC e).pu v hv)).trans (List.map_id _)
theorem zmU {a b c d f:V}(e:Ev):qa [a,b,c,d,f] 0 (encEv e)=encEv e:=rfl
attribute [go_sem] zjH zmU ev_len5 ev_take5 ev_allC ev_drop1
def zdE:Contract:=fun _ args=>⟨∃ l n get,args=[.sl n 5 get]∧n=l.length∧(∀ i,i < n→get i=encEv (el l i))∧Cnt levelE l∧l.length≤1000000,.agg (zt (made levelE (zi zI (arg args 0)))),none⟩
attribute [go_sem] zdE
end Go.Fly.Off
