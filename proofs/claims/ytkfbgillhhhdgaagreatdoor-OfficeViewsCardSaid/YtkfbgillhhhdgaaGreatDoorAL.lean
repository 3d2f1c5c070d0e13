/- Part of a proof. No conditions. -/
import Derived.Test.YtkfbgillhhhdgaaGreatDoorAK
import Derived.Laws.Externs
import Derived.Test.YtkfbgillhhhdgaaGreatDoorAJ
import Derived.Test.YtkfbgillhhhdgaaGreatDoorAH
import Derived.Test.YtkfbgillhhhdgaaGreatDoorAC
import Derived.Lib.Overlaps
set_option linter.unusedSimpArgs false
set_option linter.unusedVariables false
section
namespace Go.Fly
open Go
structure AirOk (n:Nat) (get:Nat→List V):Prop where
 cnt:0 < n∧n≤8
 th:∀ i,i < n→1≤cell get i 0∧cell get i 0≤2000
 bands:0 < inN get 0 4∧inN get 0 4≤8
 same:∀ i,i < n→inN get i 4=inN get 0 4
 pass:∀ i,i < n→∀ b,b < inN get 0 4→0≤cell (inG get i 4) b 0∧cell (inG get i 4) b 0≤cell (inG get i 4) b 1∧cell (inG get i 4) b 1≤1000
attribute [go_sem] fltV Bool.false_eq_true
theorem zh0 {X:Cx}{Kn:V→St→Prop}{s:St}:inQ X [] Kn .normal s=Kn (.tup []) s:=by
 rw[inQ]
 simp[yR,zgo]
theorem inQ_ret0 {X:Cx}{Kn:V→St→Prop}{s:St}:inQ X [] Kn .ret s=Kn (.tup []) s:=by
 rw[inQ]
 simp[yR,zgo]
theorem zdz {s s2:St}{dst:Option Tmp}{L:Nat}{r:Loop}{Kn:St→Prop}:zhE s dst L r Kn .normal s2 =
 (s2.hp (0,L)=some (.raw (.loop { r with state:=.busy }))∧Kn ⟨s2.ck,putTm s.tm dst (.bool true),updH s2.hp (0,L) (.raw (.loop { r with state:=.ready,pending:=none }))⟩):=by
 unfold zhE;simp[zmj]
def zeZ (p:Option Code)(A:Prop)(B:Code→Prop):Prop:=match p with
 | none=>A
 | some j=>B j
theorem zal {A:Prop}{B:Code→Prop}:zeZ none A B=A:=by rw[zeZ]
@[congr] theorem pendP_congr {p p':Option Code}{A:Prop}{B:Code→Prop}(h:p=p'):zeZ p A B=zeZ p' A B:=by subst h;rfl
def zjo (o:Option AObj)(A:Prop)(B:Code→Prop):Prop:=match o with
 | some (.raw (.loop r))=>r.state≠.busy∧zeZ r.pending A B
 | _=>False
theorem zf1 {r:Loop}{A:Prop}{B:Code→Prop}:zjo (some (.raw (.loop r))) A B=(r.state≠.busy∧zeZ r.pending A B):=by rw[zjo]
@[congr] theorem overP_congr {p p':Option AObj}{A:Prop}{B:Code→Prop}(h:p=p'):zjo p A B=zjo p' A B:=by subst h;rfl
theorem zn3 {L:Nat}{hp:Heap}{l:Loc}:zcb L hp l=if l=(0,L) then none else hp l:=rfl
theorem zB.rangeFunc2 {X:Cx}(hXr:X.r=none){D:zL}{g:Operand}{ps:Array Tmp}{assign body:Code}{s:St}{Q:Exit→St→Prop}{f:FuncId}{cap:List V}{fn:Func}{c:Code}
 (hg:ev X s g=.fn (.func f) [] cap) (hen:zl X.P f) (hf:X.P.funcs[f]?=some fn) (hb:fn.body=some c) (hfree:∀ L,s.hp (0,L)=none) {Dc:zL} (hdc:wD Dc c=true)
 (h:∀ (L:Nat) (r:Loop) (k1:K),r.params=ps→r.assign=assign→r.body=body→r.state=.ready→r.pending=none→zag k1 s.tm r.tmps→X.P.follows .mixedOrders=true→wD D assign=true→wD D body=true →
  exC ⟨X.P,X.Γ,X.G,none,k1⟩ Dc c ⟨s.ck+1,(.fn (.yield L) [] []::cap)++List.replicate (fn.ntmps - (V.fn (.yield L) [] []::cap).length) .top,updH s.hp (0,L) (.raw (.loop r))⟩
   (inQ ⟨X.P,X.Γ,X.G,none,k1⟩ fn.results.toList fun _ s'=>zjo (s'.hp (0,L)) (Q .normal ⟨s'.ck+1,s.tm,zcb L s'.hp⟩)
    (fun j=>∀ k0',exC ⟨X.P,X.Γ,X.G,none,k0'⟩ D j ⟨s'.ck+1,s.tm,zcb L s'.hp⟩ Q∧wD D j=true))):zB X D (.rangeFunc g ps assign body) s Q:=by
 refine zB.rangeFunc hXr hg hen hf hb hfree hdc fun L r k1 e1 e2 e3 e4 e5 e6 hm h1 h2=>?_
 refine(congrArg (exC _ _ _ _) ?_).mp (h L r k1 e1 e2 e3 e4 e5 e6 hm h1 h2)
 congr 1
 funext v s'
 apply propext
 constructor
 ·intro q
  unfold zjo at q
  split at q
  ·rename_i o r' ho
   refine⟨r',ho,q.1,?_⟩
   have q2:=q.2
   unfold zeZ at q2
   exact q2
  ·exact q.elim
 ·rintro⟨r',ho,h1,h2⟩
  rw[ho,zf1]
  refine⟨h1,?_⟩
  unfold zeZ
  exact h2
attribute [go_sem] reduceCtorEq zal zf1 zn3
theorem zbg {r:Loop}{ps:Array Tmp}{a b:Code}(e1:r.params=ps)(e2:r.assign=a)(e3:r.body=b)(e4:r.state=.ready)(e5:r.pending=none) :
 ({ state:=.ready,pending:=none,fn:=r.fn,tmps:=r.tmps,params:=ps,assign:=a,body:=b,defers:=r.defers }:Loop)=r:=by
 cases r;simp_all
theorem cast1:((1:Nat):Int)=1:=rfl
theorem cast2:((2:Nat):Int)=2:=rfl
theorem cast4:((4:Nat):Int)=4:=rfl
theorem cast8:((8:Nat):Int)=8:=rfl
attribute [go_sem] cast1 cast2 cast4 cast8 zh0 inQ_ret0 zdz zeE
theorem wu.nilC {k0:K}{s:St}{l l2:Loc}{cs:List V}{j:Nat}(sz:Nat)(get:Nat→List V)(hne:l2≠l)(hc:s.hp l2=some (.cells cs))(hj:cs[j]?=some .nils)(hl:s.hp l=none)(hck:l.1=s.ck) :
 wu k0 s ⟨s.ck,s.tm,updH (updH s.hp l (.arr 0 sz get)) l2 (.cells (cs.set j (.msl l 0 0)))⟩:=by
 intro a w ⟨M,B,hst,hk,ht,hm⟩
 obtain⟨q1,q2,q3⟩:=zgE hk (l:=l) hl hck sz get
 have ho:∀ b,(mkK w M B s.hp s.ck).owned b→(mkK w M B s.hp s.ck).M b:=fun b hb=>(hk.own b hb).1
 have ho1:∀ b,(mkK w M (yl B l none) (updH s.hp l (.arr 0 sz get)) s.ck).owned b→(mkK w M (yl B l none) (updH s.hp l (.arr 0 sz get)) s.ck).M b:=fun b hb=>(q2.own b hb).1
 have hc1:updH s.hp l (.arr 0 sz get) l2=some (.cells cs):=by rw[zc hne];exact hc
 obtain⟨b,c,xs,ty,fz,g1,g2,g3,g4,g5⟩:=hk.obj l2 _ hc
 have hB:yl B l none l2=some (b,c):=by rw[vx hne];exact g1
 obtain⟨p1,p2⟩:=vi q2 (l:=l2) hc1 (o':=.cells (cs.set j (.msl l 0 0))) hB ⟨⟨cs,rfl⟩,rfl⟩ (w':=w) ⟨rfl,rfl,rfl,rfl⟩ (fun _ _=>rfl)
  (fun k' hw hB' st=>⟨b,c,xs,ty,fz,hB',by rw[hw];exact g2,g3,by simpa using g4,fun i v hv=>by
   rw[List.getElem?_set] at hv
   by_cases e:j=i
   ·subst e
    have hlt:=(List.getElem?_eq_some_iff.1 hj).1
    simp only[if_true,hlt,Option.some.injEq] at hv
    subst hv
    have:=(g5 j _ hj).nils_inv
    rw[this]
    exact q3.step st ho1
   ·simp only[e,if_false] at hv
    exact((g5 i v hv).step q1 ho).step st ho1⟩)
 exact⟨M,yl B l none,hst.trans (q1.trans p1),p2,(ht.step q1 ho).step p1 ho1,(hm.step q1).step p1⟩
theorem kR {n sz:Nat}{get get':Nat→List V}(h:∀ j,j < n→get' j=get j):ObjLe (.arr n sz get) (.arr n sz get'):=⟨rfl,rfl,h⟩
end Go.Fly
end
section
namespace Go.Fly.Off
open Go
abbrev Str:=List UInt8
def el {α:Type}[Inhabited α](l:List α)(i:Nat):α:=l.getD i default
structure Ev where
 num:Int
 kind:Str
 names:List Str
 vals:List Int
 text:Str
deriving Inhabited,DecidableEq
structure Ty where
 name:Str
 energy:Int
 factor:Int
deriving Inhabited,DecidableEq
structure Ho where
 name:Str
 share:Int
deriving Inhabited,DecidableEq
structure Fl where
 name:Str
 type:Str
 day:Int
 minute:Int
 heard:Int
deriving Inhabited,DecidableEq
structure Mp where
 name:Str
 day:Int
 levels:List Int
deriving Inhabited,DecidableEq
structure Of where
 name:Str
 house:Str
 amount:Int
 paid:Bool
deriving Inhabited,DecidableEq
structure Co where
 name:Str
 house:Str
 day:Int
 minute:Int
 flight:Str
 answered:Int
deriving Inhabited,DecidableEq
structure Reg where
 day:Int:=0
 types:List Ty:=[]
 houses:List Ho:=[]
 flights:List Fl:=[]
 maps:List Mp:=[]
 offers:List Of:=[]
 complaints:List Co:=[]
 fund:Int:=0
deriving Inhabited,DecidableEq
inductive Kd | type | house | flight | match_ | correct | publish | offer | fund | pay | complain | answer | dismiss | undo
deriving DecidableEq,Inhabited
def Kd.all:List Kd:=[.type,.house,.flight,.match_,.correct,.publish,.offer,.fund,.pay,.complain,.answer,.dismiss,.undo]
def Kd.str:Kd→Str
 | .type=>[116,121,112,101]
 | .house=>[104,111,117,115,101]
 | .flight=>[102,108,105,103,104,116]
 | .match_=>[109,97,116,99,104]
 | .correct=>[99,111,114,114,101,99,116]
 | .publish=>[112,117,98,108,105,115,104]
 | .offer=>[111,102,102,101,114]
 | .fund=>[102,117,110,100]
 | .pay=>[112,97,121]
 | .complain=>[99,111,109,112,108,97,105,110]
 | .answer=>[97,110,115,119,101,114]
 | .dismiss=>[100,105,115,109,105,115,115]
 | .undo=>[117,110,100,111]
def kindOf (s:Str):Option Kd:=Kd.all.find? fun k=>decide (k.str=s)
def Kd.letters:Kd→List UInt8
 | .type=>[84] | .house=>[72] | .flight=>[70,116] | .match_=>[102] | .correct=>[116] | .publish=>[77]
 | .offer=>[79,104] | .fund=>[] | .pay=>[111] | .complain=>[67,104] | .answer=>[99,102] | .dismiss=>[99] | .undo=>[]
def Kd.values:Kd→Nat
 | .publish=>1 | .pay=>1 | .answer=>1 | .dismiss=>1 | .undo=>0 | _=>2
def Reg.namesOf (r:Reg)(c:Int):List Str :=
 if c=116 then r.types.map (·.name) else if c=104 then r.houses.map (·.name) else if c=102 then r.flights.map (·.name) else if c=109 then r.maps.map (·.name) else if c=111 then r.offers.map (·.name) else r.complaints.map (·.name)
def zO (l:List Str)(s:Str):Nat:=l.findIdx fun x=>decide (x=s)
def Reg.typ (r:Reg)(s:Str):Ty:=el r.types (zO (r.namesOf 116) s)
def Reg.house (r:Reg)(s:Str):Ho:=el r.houses (zO (r.namesOf 104) s)
def Reg.flight (r:Reg)(s:Str):Fl:=el r.flights (zO (r.namesOf 102) s)
def Reg.chart (r:Reg)(s:Str):Mp:=el r.maps (zO (r.namesOf 109) s)
def Reg.offer (r:Reg)(s:Str):Of:=el r.offers (zO (r.namesOf 111) s)
def Reg.complaint (r:Reg)(s:Str):Co:=el r.complaints (zO (r.namesOf 99) s)
def Reg.energyAt (r:Reg)(share:Int)(f:Fl):Int:=((r.typ f.type).energy * (r.typ f.type).factor * share).tdiv 1000000
def Reg.chain (r:Reg)(share:Int):List (Str×Int):=r.flights.map fun f=>(f.name,r.energyAt share f)
def zbu (l:List (Str×Int)):Int:=l.foldl (fun a x=>a+x.2) 0
def Reg.level (lv:Int→Int)(r:Reg)(h:Ho):Int:=lv (zbu (r.chain h.share))
def Reg.listed (r:Reg)(s:Str):Option Int:=match r.maps.getLast? with
 | none=>none
 | some m=>m.levels[zO (r.namesOf 104) s]?
def Reg.isLoud (r:Reg)(s:Str):Bool:=match r.listed s with
 | none=>false
 | some n=>decide (60≤n)
def Reg.hasOffer (r:Reg)(s:Str):Bool:=r.offers.any fun x=>decide (x.house=s)
def Reg.matched (r:Reg)(s:Str):List Fl:=r.flights.filter fun f=>decide (f.heard≠-1) && decide (f.type=s)
def Reg.flies (r:Reg)(d:Int):Bool:=r.flights.any fun f=>decide (f.day=d)
def Ev.nm (e:Ev)(i:Nat):Str:=el e.names i
def Ev.vl (e:Ev)(i:Nat):Int:=el e.vals i
def checkK (r:Reg)(e:Ev):Kd→Int
 | .type=>zv [rng (e.vl 1) 0 1000000000,err (decide (r.types.length=8)) 5]
 | .house=>zv [rng (e.vl 1) 0 1000,err (decide (r.houses.length=32)) 5]
 | .flight=>zv [rng (e.vl 1) 0 1439,err (decide (r.flights.length=64)) 5]
 | .match_=>zv [rng (e.vl 1) 0 1000000000,err (decide ((r.flight (e.nm 0)).heard≠-1)) 9]
 | .correct=>zv [rng (e.vl 1) 1 2000,err (decide ((r.matched (e.nm 0)).length < 3)) 16]
 | .publish=>zv [err (decide (r.houses.length=0)) 12,err (decide (r.maps.length=16)) 5]
 | .offer=>zv [rng (e.vl 1) 1 100000000,err (decide (r.maps.length=0)) 7,err (!r.isLoud (e.nm 1)) 21,err (r.hasOffer (e.nm 1)) 31,err (decide (r.offers.length=32)) 5]
 | .fund=>zv [rng (e.vl 1) 1 100000000,err (decide (1000000000000 - e.vl 1 < r.fund)) 4]
 | .pay=>zv [err (r.offer (e.nm 0)).paid 23,err (decide (r.fund < (r.offer (e.nm 0)).amount)) 16]
 | .complain=>zv [rng (e.vl 1) 0 1439,err (decide (r.complaints.length=64)) 5]
 | .answer=>zv [err (decide ((r.complaint (e.nm 0)).answered≠-1)) 23,err (decide ((r.flight (e.nm 1)).day≠(r.complaint (e.nm 0)).day)) 24]
 | .dismiss=>zv [err (decide ((r.complaint (e.nm 0)).answered≠-1)) 23,err (r.flies (r.complaint (e.nm 0)).day) 21]
 | .undo=>0
def zu (lv:Int→Int)(r:Reg)(e:Ev):Kd→Reg
 | .type=>{ r with types:=r.types++[⟨e.nm 0,e.vl 1,1000⟩] }
 | .house=>{ r with houses:=r.houses++[⟨e.nm 0,e.vl 1⟩] }
 | .flight=>{ r with flights:=r.flights++[⟨e.nm 0,e.nm 1,e.vl 0,e.vl 1,-1⟩] }
 | .match_=>{ r with flights:=r.flights.modify (zO (r.namesOf 102) (e.nm 0)) fun f=>{ f with heard:=e.vl 1 } }
 | .correct=>{ r with types:=r.types.modify (zO (r.namesOf 116) (e.nm 0)) fun t=>{ t with factor:=e.vl 1 } }
 | .publish=>{ r with maps:=r.maps++[⟨e.nm 0,e.vl 0,r.houses.map (r.level lv)⟩] }
 | .offer=>{ r with offers:=r.offers++[⟨e.nm 0,e.nm 1,e.vl 1,false⟩] }
 | .fund=>{ r with fund:=r.fund+e.vl 1 }
 | .pay=>{ r with offers:=r.offers.modify (zO (r.namesOf 111) (e.nm 0)) (fun x=>{ x with paid:=true }),fund:=r.fund - (r.offer (e.nm 0)).amount }
 | .complain=>{ r with complaints:=r.complaints++[⟨e.nm 0,e.nm 1,e.vl 0,e.vl 1,[],-1⟩] }
 | .answer=>{ r with complaints:=r.complaints.modify (zO (r.namesOf 99) (e.nm 0)) fun x=>{ x with flight:=e.nm 1,answered:=e.vl 0 } }
 | .dismiss=>{ r with complaints:=r.complaints.modify (zO (r.namesOf 99) (e.nm 0)) fun x=>{ x with answered:=e.vl 0 } }
 | .undo=>r
def yU (ls:List UInt8)(i:Nat):Bool:=decide (((el ls i).toNat:Int) < 97)
def jQ (ls:List UInt8)(i:Nat):Int:=if yU ls i=true then ((el ls i).toNat:Int)+32 else (el ls i).toNat
def yP (r:Reg)(e:Ev)(ls:List UInt8)(i:Nat):Bool:=decide (el e.names i∈r.namesOf (jQ ls i))
def jv (r:Reg)(e:Ev)(ls:List UInt8):Int :=
 if (List.range ls.length).any (fun i=>!yU ls i && !yP r e ls i) then 10 else if (List.range ls.length).any (fun i=>yU ls i && yP r e ls i) then 9 else 0
def knownE (r:Reg)(e:Ev)(k:Kd):Int:=jv r e k.letters
def eventE (e:Ev):Int:=match kindOf e.kind with
 | none=>zv [rng e.num 1 1000,13]
 | some k=>zv ([rng e.num 1 1000,err (decide (e.names.length≠k.letters.length) || decide (e.vals.length≠k.values)) 2]++e.names.map (fun s=>err (!nameB s) 8)++e.vals.map (fun v=>rng v 0 999999999)++[err (decide (e.text≠[])) 1])
def w9 (lv:Int→Int)(r:Reg)(e:Ev):Reg:=match kindOf e.kind with
 | none=>r
 | some k=>{ zu lv r e k with day:=e.vl 0 }
def made (lv:Int→Int)(l:List Ev):Reg:=l.foldl (w9 lv) {}
structure Hist where
 events:List Ev:=[]
 counted:List Ev:=[]
 now:Reg:={}
deriving Inhabited
def zT (h:Hist)(e:Ev):Int :=
 if e.num≠h.events.length+1 then 11 else match kindOf e.kind with
 | none=>13
 | some .undo=>match h.counted.getLast? with
   | none=>12
   | some x=>err (decide (x.kind=Kd.str .publish) || decide (x.kind=Kd.str .pay)) 21
 | some k=>if e.vl 0 < h.now.day then 22 else if knownE h.now e k≠0 then knownE h.now e k else checkK h.now e k
def kr (lv:Int→Int)(h:Hist)(e:Ev):Hist :=
 if kindOf e.kind=some .undo then { events:=h.events++[e],counted:=h.counted.dropLast,now:=made lv h.counted.dropLast }
 else { events:=h.events++[e],counted:=h.counted++[e],now:=w9 lv h.now e }
def replayL (lv:Int→Int):Hist→List Ev→Nat→Hist×Nat×Int
 | h,[],_=>(h,0,0)
 | h,e::l,i =>
   let w:=zv [eventE e,zT h e]
   if w≠0 then (h,i+1,w) else replayL lv (kr lv h e) l (i+1)
def replayed (lv:Int→Int)(l:List Ev):Hist×Nat×Int:=if 1000 < l.length then ({},0,5) else replayL lv {} l 0
theorem add_made (lv:Int→Int){h:Hist}(hn:h.now=made lv h.counted)(e:Ev):(kr lv h e).now=made lv (kr lv h e).counted:=by
 unfold kr
 split
 ·rfl
 ·show w9 lv h.now e=made lv (h.counted++[e])
  rw[hn]
  unfold made
  rw[List.foldl_append]
  rfl
end Go.Fly.Off
end
section
namespace Go.Fly
open Go
theorem zp.inline {X:Cx}(hX:X.Ok){f:FuncId}{fn:Func}{c:Code}(hf:X.P.funcs[f]?=some fn)(hb:fn.body=some c)(hm:X.P.follows .mixedOrders=true){D:zL}(hd:wD D c=true)
 (Γ:FuncId→Option Contract) (hΓ:∀ g C,Γ g=some C→Holds X.P X.G g C) {hp:Heap} {ck:Nat} {args:List V} {Kn:V→Heap→Nat→Prop}
 (h:∀ k1,exC ⟨X.P,Γ,X.G,none,k1⟩ D c ⟨ck+1,args++List.replicate (fn.ntmps - args.length) .top,hp⟩ (inQ ⟨X.P,Γ,X.G,none,k1⟩ fn.results.toList fun v s'=>Kn v s'.hp s'.ck)):zp X hp ck f args Kn:=by
 intro w M B vs hst hho hargs
 have hG0:∀ g,R (mkK w M B hp ck) (X.G g) (.pointer (some ⟨g,0,none⟩)):=fun g=>(hX.G0 g).step hst hX.own
 have hX1:(⟨X.P,Γ,X.G,none,mkK w M B hp ck⟩:Cx).Ok:=⟨hΓ,hX.G,hG0,fun b hb=>(hho.own b hb).1⟩
 refine(zdb hf hb hΓ hX.G hho hG0 hargs (Kn:=fun v s'=>Kn v s'.hp s'.ck) (yk hX1 hm c _ _ hd (h (mkK w M B hp ck)))).mono fun e w' ⟨rv,v,s',M',B',h1,h2,h3,h4,h5⟩=>?_
 exact⟨rv,v,s'.hp,s'.ck,M',B',h1,h2,h3,h4,h5⟩
def finK (v:Option V)(s:St)(Kn:V→St→Prop):Prop:=match v with
 | some v=>Kn v s
 | none=>False
theorem zmE {v:V}{s:St}{Kn:V→St→Prop}:finK (some v) s Kn=Kn v s:=by rw[finK]
@[congr] theorem finK_congr {v v':Option V}{s:St}{Kn:V→St→Prop}(h:v=v'):finK v s Kn=finK v' s Kn:=by subst h;rfl
theorem inQ_one {X:Cx}{r:ResultVar}{Kn:V→St→Prop}{s:St}{e:Exit}(he:e=.normal∨e=.ret):inQ X [r] Kn e s=finK (zki X s r) s Kn:=by
 have key:(∃ v,yR X s [r]=some v∧Kn v s)=finK (zki X s r) s Kn:=by
  unfold yR zgo finK
  cases h:zki X s r with
  | none=>simp[zgo]
  | some v=>simp[zgo]
 rcases he with rfl | rfl <;> rw[inQ] <;> exact key
theorem inQ_ret1 {X:Cx}{r:ResultVar}{Kn:V→St→Prop}{s:St}:inQ X [r] Kn .ret s=finK (zki X s r) s Kn:=inQ_one (.inr rfl)
attribute [go_sem] zmE inQ_ret1
theorem T.post {X:Cx}{c:Code}{s:St}{Q:Exit→St→Prop}(h:T X c s (fun e s'=>∃ s2,wu X.k0 s' s2∧Q e s2)):T X c s Q :=
 fun a w hr=>wpIn_mono (h a w hr) fun e a' w' ⟨s',⟨s2,h1,h2⟩,h3⟩=>⟨s2,h2,h1 a' w' h3⟩
def updF (f:Nat→V)(d:Nat)(v:V):Nat→V:=fun e=>if e=d then v else f e
def mkT (n:Nat)(f:Nat→V):List V:=(List.range n).map f
def argF (args:List V):Nat→V:=fun e=>args.getD e .top
theorem zcY {n:Nat}{f:Nat→V}:(mkT n f).length=n:=by simp[mkT]
theorem kc {n:Nat}{f:Nat→V}{e:Nat}:(mkT n f)[e]?=if n≤e then none else some (f e):=by
 unfold mkT
 rw[List.getElem?_map]
 by_cases h:n≤e
 ·rw[if_pos h,List.getElem?_eq_none (by simpa using h)];rfl
 ·rw[if_neg h,List.getElem?_range (by omega)];rfl
theorem mkT_set {n:Nat}{f:Nat→V}{d:Nat}{v:V}:(mkT n f).set d v=mkT n (updF f d v):=by
 apply List.ext_getElem?
 intro e
 rw[List.getElem?_set,kc,kc,zcY]
 unfold updF
 by_cases h:d=e
 ·subst h
  by_cases h2:n≤d
  ·simp[h2]
  ·simp[h2]
 ·have:¬ e=d:=fun q=>h q.symm
  simp[h,this]
theorem kz {f:Nat→V}{d e:Nat}{v:V}:updF f d v e=if e=d then v else f e:=rfl
theorem argF_app {args:List V}{e:Nat}:argF args e=args.getD e .top:=rfl
theorem zb {args:List V}{n:Nat}(h:args.length≤n):St.enter args n=⟨1,mkT n (argF args),fun _=>none⟩:=by
 unfold St.enter
 congr 1
 apply List.ext_getElem?
 intro e
 rw[kc]
 unfold argF
 by_cases h1:e < args.length
 ·rw[List.getElem?_append_left h1,if_neg (by omega),List.getD_eq_getElem?_getD,List.getElem?_eq_getElem h1];rfl
 ·rw[List.getElem?_append_right (by omega)]
  by_cases h2:n≤e
  ·rw[if_pos h2,List.getElem?_eq_none (by simp;omega)]
  ·rw[if_neg h2,List.getElem?_replicate,if_pos (by omega),List.getD_eq_getElem?_getD,List.getElem?_eq_none (by omega)];rfl
theorem zA {args:List V}{n:Nat}(h:args.length≤n):args++List.replicate (n - args.length) .top=mkT n (argF args):=by
 have:=congrArg St.tm (zb h)
 exact this
def inD:List (Nat×Nat)→Nat→Prop
 | [],_=>False
 | (a,b)::l,e=>(a≤e∧e≤b)∨inD l e
def zb8:List (Nat×Nat)→(Nat→V)→Nat→V
 | [],f=>f
 | (a,b)::l,f=>fun e=>if a≤e then (if e≤b then .top else zb8 l f e) else zb8 l f e
def zg3:List (Nat×V)→(Nat→V)→Nat→V
 | [],f=>f
 | (d,v)::l,f=>zg3 l (updF f d v)
theorem topF_nil {f:Nat→V}:zb8 [] f=f:=rfl
theorem zb7 {a b:Nat}{l:List (Nat×Nat)}{f:Nat→V}{e:Nat}:zb8 ((a,b)::l) f e=if a≤e then (if e≤b then .top else zb8 l f e) else zb8 l f e:=rfl
theorem setF_nil {f:Nat→V}:zg3 [] f=f:=rfl
theorem zeF {d:Nat}{v:V}{l:List (Nat×V)}{f:Nat→V}:zg3 ((d,v)::l) f=zg3 l (updF f d v):=rfl
theorem inD_nil {e:Nat}:inD [] e=False:=propext ⟨id,id⟩
theorem inD_cons {a b:Nat}{l:List (Nat×Nat)}{e:Nat}:inD ((a,b)::l) e=((a≤e∧e≤b)∨inD l e):=propext ⟨id,id⟩
theorem zks {l:List (Nat×Nat)}{f:Nat→V}{e:Nat}(h:inD l e):zb8 l f e=.top:=by
 induction l with
 | nil=>exact h.elim
 | cons x l ih =>
   obtain⟨a,b⟩:=x
   rw[zb7]
   rcases h with h | h
   ·rw[if_pos h.1,if_pos h.2]
   ·rw[ih h];split <;> (try split) <;> rfl
theorem kA {l:List (Nat×Nat)}{f:Nat→V}{e:Nat}(h:¬ inD l e):zb8 l f e=f e:=by
 induction l with
 | nil=>rfl
 | cons x l ih =>
   obtain⟨a,b⟩:=x
   rw[zb7,ih fun q=>h (.inr q)]
   split
   ·split
    ·rename_i h1 h2;exact(h (.inl ⟨h1,h2⟩)).elim
    ·rfl
   ·rfl
def Off (n:Nat)(dead:List (Nat×Nat))(g f:Nat→V):Prop:=∀ e,e < n→¬ inD dead e→g e=f e
theorem Off.upd {n:Nat}{dead:List (Nat×Nat)}{g f:Nat→V}{d:Nat}{v:V}(hd:inD dead d):Off n dead (updF g d v) f=Off n dead g f:=by
 apply propext
 constructor
 ·intro h e hn he
  rw[← h e hn he,kz,if_neg (by rintro rfl;exact he hd)]
 ·intro h e hn he
  rw[kz,if_neg (by rintro rfl;exact he hd)];exact h e hn he
theorem Off.top {n:Nat}{dead:List (Nat×Nat)}{f:Nat→V}:Off n dead (zb8 dead f) f=True:=eq_true fun e _ he=>kA he
def eqL (g:Nat→V):List (Nat×V)→Prop
 | []=>True
 | (d,v)::l=>g d=v∧eqL g l
theorem eqL_nil {g:Nat→V}:eqL g []=True:=rfl
theorem eqL_cons {g:Nat→V}{d:Nat}{v:V}{l:List (Nat×V)}:eqL g ((d,v)::l)=(g d=v∧eqL g l):=rfl
theorem zhw {l:List (Nat×V)}{g:Nat→V}{dead:List (Nat×Nat)}(hg:eqL g l):∀ {f:Nat→V} {e:Nat},(f e=.top∨f e=g e)→zg3 l f e=.top∨zg3 l f e=g e:=by
 induction l with
 | nil=>intro f e h;exact h
 | cons x l ih =>
   intro f e h
   obtain⟨d,v⟩:=x
   rw[zeF]
   refine ih hg.2 ?_
   rw[kz]
   by_cases q:e=d
   ·subst q;rw[if_pos rfl];exact .inr hg.1.symm
   ·rw[if_neg q];exact h
theorem zhn {n:Nat}{f g:Nat→V}(h:∀ e,e < n→f e=.top∨f e=g e):zho (mkT n g) (mkT n f):=by
 have key:∀ (l:List Nat),(∀ e∈l,f e=.top∨f e=g e)→zho (l.map g) (l.map f):=by
  intro l
  induction l with
  | nil=>intro _;trivial
  | cons e l ih =>
    intro h
    refine⟨?_,ih fun e he=>h e (by simp[he])⟩
    rcases h e (by simp) with q | q
    ·exact .inl q
    ·exact .inr q.symm
 exact key _ fun e he=>h e (by simpa using he)
def LeT (tm:List V)(n:Nat)(live:List (Nat×V))(dead:List (Nat×Nat))(f:Nat→V):Prop:=tm.length=n∧eqL (fun e=>tm.getD e .top) live∧Off n dead (fun e=>tm.getD e .top) f
theorem LeT_mk {n:Nat}{g:Nat→V}{live:List (Nat×V)}{dead:List (Nat×Nat)}{f:Nat→V}:LeT (mkT n g) n live dead f=(eqL (fun e=>(mkT n g).getD e .top) live∧Off n dead g f):=by
 unfold LeT Off
 rw[zcY]
 apply propext
 have hg:∀ e,e < n→(mkT n g).getD e .top=g e:=fun e he=>by
  rw[List.getD_eq_getElem?_getD,kc,if_neg (by omega)];rfl
 constructor
 ·rintro⟨_,h1,h2⟩
  exact⟨h1,fun e he hn=>by rw[← hg e he];exact h2 e he hn⟩
 ·rintro⟨h1,h2⟩
  exact⟨rfl,h1,fun e he hn=>by show (mkT n g).getD e .top=_;rw[hg e he];exact h2 e he hn⟩
theorem LeT.le {tm:List V}{n:Nat}{live:List (Nat×V)}{dead:List (Nat×Nat)}{f:Nat→V}(h:LeT tm n live dead f):zho tm (mkT n (zg3 live (zb8 dead f))):=by
 obtain⟨h0,h1,h2⟩:=h
 have e1:tm=mkT n (fun e=>tm.getD e .top):=by
  apply List.ext_getElem?
  intro e
  rw[kc]
  by_cases q:n≤e
  ·rw[if_pos q,List.getElem?_eq_none (by omega)]
  ·rw[if_neg q,List.getD_eq_getElem?_getD,List.getElem?_eq_getElem (by omega)];rfl
 generalize hgg:(fun e=>tm.getD e .top)=g at *
 rw[e1]
 refine zhn fun e he=>zhw (dead:=dead) h1 ?_
 by_cases q:inD dead e
 ·exact .inl (zks q)
 ·rw[kA q];exact .inr (h2 e he q).symm
theorem LeT.start {n:Nat}{f:Nat→V}{live:List (Nat×V)}{dead:List (Nat×Nat)}(h:eqL f live):zho (mkT n f) (mkT n (zg3 live (zb8 dead f))):=by
 refine zhn fun e he=>zhw (dead:=dead) h ?_
 by_cases q:inD dead e
 ·exact .inl (zks q)
 ·rw[kA q];exact .inr rfl
theorem zB.loopF {X:Cx}{D:zL}{c:Code}{ck n:Nat}{f:Nat→V}{hp:Heap}{Q:Exit→St→Prop}{β:Type}(dead:List (Nat×Nat))(live:β→List (Nat×V))(hpf:β→Heap)(Inv:β→Prop)(μ:β→Nat)(b0:β)
 (hI:Inv b0) (h0:eqL f (live b0)) (hh:zy hp (hpf b0))
 (round:∀ ck' b,ck≤ck'→Inv b→exC X D c ⟨ck',mkT n (zg3 (live b) (zb8 dead f)),hpf b⟩
  (zer (fun s'=>ck≤s'.ck∧∃ b',Inv b'∧μ b' < μ b∧LeT s'.tm n (live b') dead f∧zy s'.hp (hpf b')) Q)):zB X D (.loop c) ⟨ck,mkT n f,hp⟩ Q:=by
 intro hd hX hm
 refine T.loop (α:={ x:Nat×β // ck≤x.1∧Inv x.2 }) (fun x=>⟨x.1.1,mkT n (zg3 (live x.1.2) (zb8 dead f)),hpf x.1.2⟩) (fun x=>μ x.1.2) ⟨(ck+1,b0),by simp,hI⟩ (wu.go (LeT.start h0) hh) ?_
 rintro⟨⟨ck',b⟩,h1,h2⟩
 refine T.mono (yk hX hm c _ _ hd (round ck' b h1 h2)) fun e s' q=>?_
 cases e with
 | normal =>
   obtain⟨q1,b',q2,q3,q4,q5⟩:=q
   obtain⟨c1,t1,p1⟩:=s'
   exact⟨⟨(c1+1,b'),by simp at q1 ⊢;omega,q2⟩,wu.go q4.le q5,q3⟩
 | _=>exact q
theorem zB.loopG {X:Cx}{D:zL}{c:Code}{ck n:Nat}{f:Nat→V}{hp:Heap}{Q:Exit→St→Prop}{β:Type}(dead:List (Nat×Nat))(live:β→List (Nat×V))(hpf:β→Heap)(Inv:Nat→β→Prop)(μ:β→Nat)(b0:β)
 (hI:Inv (ck+1) b0) (h0:eqL f (live b0)) (hh:zy hp (hpf b0))
 (round:∀ ck' b,ck < ck'→Inv ck' b→exC X D c ⟨ck',mkT n (zg3 (live b) (zb8 dead f)),hpf b⟩
  (zer (fun s'=>ck≤s'.ck∧∃ b',Inv (s'.ck+1) b'∧μ b' < μ b∧LeT s'.tm n (live b') dead f∧zy s'.hp (hpf b')) fun e s'=>∃ s2,wu X.k0 s' s2∧Q e s2)):zB X D (.loop c) ⟨ck,mkT n f,hp⟩ Q:=by
 intro hd hX hm
 refine T.post (T.loop (α:={ x:Nat×β // ck < x.1∧Inv x.1 x.2 }) (fun x=>⟨x.1.1,mkT n (zg3 (live x.1.2) (zb8 dead f)),hpf x.1.2⟩) (fun x=>μ x.1.2) ⟨(ck+1,b0),by simp,hI⟩ (wu.go (LeT.start h0) hh) ?_)
 rintro⟨⟨ck',b⟩,h1,h2⟩
 refine T.mono (yk hX hm c _ _ hd (round ck' b h1 h2)) fun e s' q=>?_
 cases e with
 | normal =>
   obtain⟨q1,b',q2,q3,q4,q5⟩:=q
   obtain⟨c1,t1,p1⟩:=s'
   exact⟨⟨(c1+1,b'),by simp at q1 ⊢;omega,q2⟩,wu.go q4.le q5,q3⟩
 | _=>exact q
theorem zkp {f:Nat→V}{d:Nat}{v:V}:updF f d v d=v:=by rw[kz,if_pos rfl]
theorem updF_ne {f:Nat→V}{d e:Nat}{v:V}(h:¬ e=d):updF f d v e=f e:=by rw[kz,if_neg h]
theorem zid {n:Nat}{f:Nat→V}{e:Nat}(h:¬ n≤e):(mkT n f).getD e .top=f e:=by rw[List.getD_eq_getElem?_getD,kc,if_neg h];rfl
theorem mkT_get1 {n:Nat}{f:Nat→V}{e:Nat}(h:¬ n≤e):(mkT n f)[e]?=some (f e):=by rw[kc,if_neg h]
theorem topF_lo {a b:Nat}{l:List (Nat×Nat)}{f:Nat→V}{e:Nat}(h1:¬ a≤e):zb8 ((a,b)::l) f e=zb8 l f e:=by rw[zb7,if_neg h1]
theorem topF_hi {a b:Nat}{l:List (Nat×Nat)}{f:Nat→V}{e:Nat}(h2:¬ e≤b):zb8 ((a,b)::l) f e=zb8 l f e:=by rw[zb7,if_neg h2];split <;> rfl
attribute [go_sem] mkT_get1 mkT_set zkp updF_ne argF_app topF_nil topF_lo topF_hi setF_nil zeF inD_nil inD_cons Off.upd Off.top eqL_nil eqL_cons LeT_mk
theorem zb5:type_of% (@zid):=@zid
theorem upq0:type_of% (And.intro @wy (@zb5)):=And.intro @wy (@zb5)
theorem zp.mono {X:Cx}{hp:Heap}{ck:Nat}{f:FuncId}{args:List V}{Kn Kn':V→Heap→Nat→Prop}(h:zp X hp ck f args Kn)(hK:∀ r hp' ck',Kn r hp' ck'→Kn' r hp' ck'):zp X hp ck f args Kn':=by
 intro w M B vs hst hho hargs
 exact(h w M B vs hst hho hargs).mono fun e w' ⟨rv,r,hp',ck',M',B',h1,h2⟩=>⟨rv,r,hp',ck',M',B',hK _ _ _ h1,h2⟩
theorem Rel.bare {k0:K}{w:World}{M:Nat→Prop}{B:Loc→Option (Nat×Nat)}{hp:Heap}{ck:Nat}{tm:List V}{vs:Array Value}(hst:Step k0 (mkK w M B hp ck))(hho:HeapOk (mkK w M B hp ck))(hargs:zae (mkK w M B hp ck) tm vs) :
 Rel k0 ⟨ck,tm,hp⟩ ⟨vs,[]⟩ w:=⟨M,B,hst,hho,⟨hargs.1.symm,hargs.2⟩,[],rfl,List.nodup_nil,by simp⟩
theorem zp.post {X:Cx}{hp:Heap}{ck:Nat}{f:FuncId}{args:List V}{Kn:V→Heap→Nat→Prop}
 (h:zp X hp ck f args (fun r hp' ck'=>∃ r2 hp2 ck2,(∀ k0,wu k0 ⟨ck',[r],hp'⟩ ⟨ck2,[r2],hp2⟩)∧Kn r2 hp2 ck2)):zp X hp ck f args Kn:=by
 intro w M B vs hst hho hargs
 refine(h w M B vs hst hho hargs).mono fun e w' ⟨rv,r,hp',ck',M',B',⟨r2,hp2,ck2,hE,hK⟩,h2,h3,h4,h5⟩=>?_
 obtain⟨M2,B2,q1,q2,q3,_⟩:=hE (mkK w M B hp ck) ⟨#[rv],[]⟩ w' (Rel.bare h3 h4 ⟨rfl,fun j v hv=>by
  cases j with
  | zero =>
    simp only[List.getElem?_cons_zero,Option.some.injEq] at hv
    subst hv
    exact h5
  | succ j=>simp at hv⟩)
 exact⟨rv,r2,hp2,ck2,M2,B2,hK,h2,q1,q2,q3.2 0 r2 rfl⟩
theorem zp.pre {X:Cx}{hp hp2:Heap}{ck ck2:Nat}{f:FuncId}{args args2:List V}{Kn:V→Heap→Nat→Prop}(hE:∀ k0,wu k0 ⟨ck,args,hp⟩ ⟨ck2,args2,hp2⟩)
 (h:zp X hp2 ck2 f args2 Kn):zp X hp ck f args Kn:=by
 intro w M B vs hst hho hargs
 have own:∀ b,(mkK w M B hp ck).owned b→(mkK w M B hp ck).M b:=fun b hb=>(hho.own b hb).1
 obtain⟨M2,B2,q1,q2,q3,_⟩:=hE (mkK w M B hp ck) ⟨vs,[]⟩ w (Rel.bare (Step.refl _) hho hargs)
 refine(h w M2 B2 vs (hst.trans q1) q2 ⟨q3.1.symm,q3.2⟩).mono fun e w' ⟨rv,r,hp',ck',M',B',h1,h2,h3,h4,h5⟩=>⟨rv,r,hp',ck',M',B',h1,h2,q1.trans h3,h4,h5⟩
theorem zp.less {X:Cx}{hp:Heap}{ck:Nat}{f:FuncId}{args:List V}{Kn:V→Heap→Nat→Prop}
 (h:zp X hp ck f args (fun r hp' ck'=>∃ hp2,zy hp' hp2∧Kn r hp2 (ck'+1))):zp X hp ck f args Kn :=
 zp.post (h.mono fun r hp' ck' ⟨hp2,h1,h2⟩=>⟨r,hp2,ck'+1,fun k0=>wu.go ⟨.inr rfl,trivial⟩ h1,h2⟩)
theorem Holds.of_callT {P:Program}{G:Nat→V}{f:FuncId}{C:Contract}(hG:∀ g,Pu (G g)∨G g=.top)(hobj:∀ rl args,(C rl args).obj=none)
 (h:∀ (k0:K) (rl:Loc) (args:List V),(⟨P,fun _=>none,G,none,k0⟩:Cx).Ok→(∀ a∈args,Pu a)→(C rl args).pre →
  zp ⟨P,fun _=>none,G,none,k0⟩ (fun _=>none) 1 f args (fun r hp' _=>zo (frz 5 hp' r) (C rl args).val)):Holds P G f C:=by
 intro rl args w0 M0 vs hM0 hG0 hpu hargs hpre
 have hX:(⟨P,fun _=>none,G,none,yN w0 M0⟩:Cx).Ok:=⟨fun _ _ q=>(by cases q),hG,hG0,fun b ⟨l,o,c,h,_⟩=>by cases h⟩
 have hst0:Step (yN w0 M0) (mkK w0 M0 (fun _=>none) (fun _=>none) 1):=⟨rfl,rfl,rfl,Nat.le_refl _,fun _ _ _=>rfl,fun _ h=>.inl h,fun _ _ h=>h,fun _ _ _ h=>h,fun l h=>h.elim,fun l h=>h.elim⟩
 have hho0:HeapOk (mkK w0 M0 (fun _=>none) (fun _=>none) 1):=⟨hM0,(fun b ⟨l,o,c,h,_⟩=>by cases h),(fun l o h=>by cases h),(fun l l' b c c' o o' h=>by cases h),(fun l o h=>by cases h)⟩
 refine(h (yN w0 M0) rl args hX hpu hpre w0 M0 (fun _=>none) vs hst0 hho0 ⟨hargs.1,fun j v hv=>(hargs.2 j v hv).step hst0 (fun b ⟨l,o,c,h,_⟩=>by cases h)⟩).mono fun e w' ⟨rv,r,hp',ck',M',B',h1,h2,h3,h4,h5⟩=>?_
 have hown0:∀ b,(mkK w' M' B' hp' ck').owned b→w0.heap.size≤b:=fun b hb=>by
  rcases h3.own b hb with⟨l,o,c,q,_⟩ | q
  ·cases q
  ·exact q
 have hM0M:∀ b,M0 b→M' b:=fun b hb=>h3.M2 b (hM0 b hb) (fun⟨l,o,c,q,_⟩=>by cases q) hb
 have hsz0:w0.heap.size≤w'.heap.size:=h3.size
 refine⟨rv,none,h2,?_,?_,?_⟩
 ·rw[hobj]
  refine⟨h3.os,h3.tape,h3.output,hsz0,fun b hb _=>h3.keep b hb (fun⟨l,o,c,q,_⟩=>by cases q),fun b ⟨l,o,c,q,_⟩=>?_,fun b hb hm=>?_,fun b hb _ hm=>.inl hm,fun l q=>q.elim,fun l q=>q.elim⟩
  ·simp[ql,zes] at q
  ·rcases hm with hm | ⟨hm,_⟩
   ·exact hm
   ·cases hm
 ·rw[hobj]
  refine⟨fun b hb=>?_,fun b ⟨l,o,c,q,_⟩=>?_,fun l o q=>?_,fun l l' b c c' o o' q=>?_,fun l o q=>?_⟩
  ·rcases hb with hb | ⟨hb,_⟩
   ·exact Nat.lt_of_lt_of_le (hM0 b hb) hsz0
   ·cases hb
  ·simp[ql,zes] at q
  ·simp[ql,zes] at q
  ·simp[ql,zes] at q
  ·simp[ql,zes] at q
 ·rw[hobj]
  refine h1 _ _ (frz_R (k:=mkK w' M' B' hp' ck') (k':=ql w' M0 rl none none) h4 (fun b hb hc=>⟨hb,rfl,fun q=>?_⟩) 5 h5).2
  rcases q with q | ⟨q,_⟩
  ·rcases hc with hc | hc
   ·exact hc (hM0M b q)
   ·have h1:=hown0 b hc
    have h2:=hM0 b q
    omega
  ·cases q
theorem zeD {w:World}{M:Nat→Prop}{B:Loc→Option (Nat×Nat)}{hp:Heap}{ck:Nat}(hk:HeapOk (mkK w M B hp ck)){l l':Loc}{n m sz:Nat}{get:Nat→List V}(hl:hp l=some (.arr n sz get))(hmn:m≤n)(hl':hp l'=none)(hck:l'.1=ck) :
 ∃ B',B' l'=B l∧Step (mkK w M B hp ck) (mkK w M B' (updH (updH hp l .dead) l' (.arr m sz get)) ck) ∧
  HeapOk (mkK w M B' (updH (updH hp l .dead) l' (.arr m sz get)) ck) ∧
  ∀ cv,R (mkK w M B hp ck) (.psl l n 0 m) cv→R (mkK w M B' (updH (updH hp l .dead) l' (.arr m sz get)) ck) (.msl l' 0 m) cv:=by
 obtain⟨g1,g2,g3⟩:=hk.obj l _ hl
 have g3':match B l with
  | none=>n=0
  | some (b,c)=>n≤c∧∃ xs ty fz,w.heap[b]?=some (.cells xs ty fz)∧(∀ o:Nat,¬ (fz.1≤o∧o < fz.2))∧xs.size=c * sz ∧
   ∀ (i j:Nat) (v:V),i < n→(get i)[j]?=some v→R (mkK w M B hp ck) v (xs.getD (i * sz+j) undef):=g3
 have hne:l≠l':=fun e=>by rw[e,hl'] at hl;cases hl
 have hnm:¬ (mkK w M B hp ck).nm l':=by
  intro h;rcases h with h | ⟨_,h⟩
  ·omega
  ·simp[hl'] at h
 generalize hx:B l=x at g3'
 refine⟨yl (yl B l none) l' x,zR ..,?_⟩
 generalize hob:AObj.arr m sz get=ob
 have h1:∀ y:Loc,y≠l→y≠l'→updH (updH hp l .dead) l' ob y=hp y∧yl (yl B l none) l' x y=B y:=fun y e1 e2=>⟨by rw[zc e2,zc e1],by rw[vx e2,vx e1]⟩
 have h2:updH (updH hp l .dead) l' ob l=some .dead∧yl (yl B l none) l' x l=none:=⟨by rw[zc hne,zd],by rw[vx hne,zR]⟩
 have h3:updH (updH hp l .dead) l' ob l'=some ob∧yl (yl B l none) l' x l'=x:=⟨zd ..,zR ..⟩
 let k':K:=mkK w M (yl (yl B l none) l' x) (updH (updH hp l .dead) l' ob) ck
 have hcase:∀ y:Loc,y=l∨y=l'∨(y≠l∧y≠l'):=fun y=>by
  by_cases e1:y=l
  ·exact .inl e1
  ·by_cases e2:y=l'
   ·exact .inr (.inl e2)
   ·exact .inr (.inr ⟨e1,e2⟩)
 have hown:∀ b,k'.owned b→(mkK w M B hp ck).owned b:=by
  rintro b ⟨l2,o2,c2,q1,q2⟩
  rcases hcase l2 with e | e | ⟨e1,e2⟩
  ·subst e
   have:yl (yl B l2 none) l' x l2=some (b,c2):=q2
   rw[h2.2] at this;cases this
  ·subst e
   have:yl (yl B l none) l2 x l2=some (b,c2):=q2
   rw[h3.2] at this
   exact⟨l,_,c2,hl,hx.trans this⟩
  ·have q1':updH (updH hp l .dead) l' ob l2=some o2:=q1
   have q2':yl (yl B l none) l' x l2=some (b,c2):=q2
   rw[(h1 l2 e1 e2).1] at q1'
   rw[(h1 l2 e1 e2).2] at q2'
   exact⟨l2,o2,c2,q1',q2'⟩
 have hnm':∀ y,(mkK w M B hp ck).nm y→k'.nm y:=fun y h=>ye (ye h)
 have st:Step (mkK w M B hp ck) k':=by
  refine⟨rfl,rfl,rfl,Nat.le_refl _,fun _ _ _=>rfl,fun b hb=>.inl (hown b hb),fun b _ hm=>hm,fun b _ _ hm=>hm,hnm',fun l2 hl2 o2 ho2=>?_⟩
  have ho2':updH (updH hp l .dead) l' ob l2=some o2:=ho2
  rcases hcase l2 with e | e | ⟨e1,e2⟩
  ·subst e
   rw[h2.1] at ho2'
   cases ho2'
   trivial
  ·subst e
   exact absurd hl2 hnm
  ·rw[(h1 l2 e1 e2).1] at ho2'
   have q:=(Step.refl (mkK w M B hp ck)).names l2 hl2 o2 ho2'
   cases o2 with
   | dead=>trivial
   | raw r=>trivial
   | cells cs=>exact⟨q.1,(h1 l2 e1 e2).2⟩
   | buf _ _ _=>exact⟨q.1,(h1 l2 e1 e2).2⟩
   | arr n sz get=>obtain⟨n0,g0,q1,q2,q3⟩:=q;exact⟨n0,g0,q1,q2,fun _=>(h1 l2 e1 e2).2⟩
 have hpb:∀ b c y c2 o2,x=some (b,c)→hp y=some o2→B y=some (b,c2)→y=l:=fun b c y c2 o2 q0 q1 q2=>hk.inj y l b c2 c o2 _ q1 hl q2 (hx.trans q0)
 refine⟨st,⟨fun b hb=>hk.lt b hb,fun b hb=>hk.own b (hown b hb),fun l2 o2 q=>?_,fun l1 l2 b c1 c2 o1 o2 q1 q2 q3 q4=>?_,fun l2 o2 q=>?_⟩,?_⟩
 ·have q':updH (updH hp l .dead) l' ob l2=some o2:=q
  rcases hcase l2 with e | e | ⟨e1,e2⟩
  ·subst e;exact hnm' _ (hk.nm l2 _ hl)
  ·subst e;exact .inr ⟨hck,by show (updH (updH hp l .dead) l2 ob l2).isSome=true;rw[h3.1];rfl⟩
  ·rw[(h1 l2 e1 e2).1] at q'
   exact hnm' _ (hk.nm l2 o2 q')
 ·have q1':updH (updH hp l .dead) l' ob l1=some o1:=q1
  have q2':updH (updH hp l .dead) l' ob l2=some o2:=q2
  have q3':yl (yl B l none) l' x l1=some (b,c1):=q3
  have q4':yl (yl B l none) l' x l2=some (b,c2):=q4
  rcases hcase l1 with e | e | ⟨e1,e2⟩
  ·rw[e,h2.2] at q3';cases q3'
  ·rcases hcase l2 with f | f | ⟨f1,f2⟩
   ·rw[f,h2.2] at q4';cases q4'
   ·rw[e,f]
   ·rw[e,h3.2] at q3'
    rw[(h1 l2 f1 f2).1] at q2';rw[(h1 l2 f1 f2).2] at q4'
    exact absurd (hpb b c1 l2 c2 o2 q3' q2' q4') f1
  ·rw[(h1 l1 e1 e2).1] at q1';rw[(h1 l1 e1 e2).2] at q3'
   rcases hcase l2 with f | f | ⟨f1,f2⟩
   ·rw[f,h2.2] at q4';cases q4'
   ·rw[f,h3.2] at q4'
    exact absurd (hpb b c2 l1 c1 o1 q4' q1' q3') e1
   ·rw[(h1 l2 f1 f2).1] at q2';rw[(h1 l2 f1 f2).2] at q4'
    exact hk.inj l1 l2 b c1 c2 o1 o2 q1' q2' q3' q4'
 ·have q':updH (updH hp l .dead) l' ob l2=some o2:=q
  rcases hcase l2 with e | e | ⟨e1,e2⟩
  ·subst e
   rw[h2.1] at q'
   cases q'
   exact h2.2
  ·subst e
   rw[h3.1] at q'
   cases q'
   suffices hg:ObjOk k' l2 (.arr m sz get) by
    rw[hob] at hg
    exact hg
   refine⟨fun i hi=>g1 i (by omega),trivial,?_⟩
   have e3:k'.B l2=x:=h3.2
   rw[e3]
   cases x with
   | none =>
     have:n=0:=g3'
     show m=0
     omega
   | some bc =>
     obtain⟨b,c⟩:=bc
     obtain⟨p1,xs,ty,fz,p2,p3,p4,p5⟩:=g3'
     exact⟨by omega,xs,ty,fz,p2,p3,p4,fun i j v hi hv=>(p5 i j v (by omega) hv).step st fun b hb=>(hk.own b hb).1⟩
  ·rw[(h1 l2 e1 e2).1] at q'
   exact ObjOk.step st hk q' (by show updH (updH hp l .dead) l' ob l2=_;rw[(h1 l2 e1 e2).1];exact q') (h1 l2 e1 e2).2 fun _ _ _=>rfl
 ·intro cv hv
  cases hv with
  | psl _ _ _ _ _ h1c hnn h =>
    obtain⟨p0,p1,p2⟩:=h _ _ _ hl
    have hcv:=p2 rfl
    refine .msl _ _ _ _ h1c (.inr ⟨hck,by show (updH (updH hp l .dead) l' ob l').isSome=true;rw[h3.1];rfl⟩) fun n' sz' get' hg=>?_
    have hg':updH (updH hp l .dead) l' ob l'=some (.arr n' sz' get'):=hg
    rw[h3.1,← hob] at hg'
    cases hg'
    refine⟨by omega,fun _=>?_⟩
    show cv=mslVal (yl (yl B l none) l' x l') 0 sz m
    rw[h3.2,← hx]
    exact hcv
theorem wu.shrink {k0:K}{s:St}{l l' l2:Loc}{n m sz:Nat}{get:Nat→List V}{cs:List V}{j d:Nat}(hne:l2≠l)(hne':l2≠l')(hl:s.hp l=some (.arr n sz get))(hmn:m≤n)(hl':s.hp l'=none)(hck:l'.1=s.ck)(hc:s.hp l2=some (.cells cs))(hj:cs[j]?=some (.psl l n 0 m))(hd:s.tm[d]?=some (.psl l n 0 m)) :
 wu k0 s ⟨s.ck,s.tm.set d (.msl l' 0 m),updH (updH (updH s.hp l .dead) l' (.arr m sz get)) l2 (.cells (cs.set j (.msl l' 0 m)))⟩:=by
 intro a w ⟨M,B,hst,hk,ht,hm⟩
 obtain⟨B',q0,q1,q2,q3⟩:=zeD hk hl hmn hl' hck
 have ho:∀ b,(mkK w M B s.hp s.ck).owned b→(mkK w M B s.hp s.ck).M b:=fun b hb=>(hk.own b hb).1
 have ho1:∀ b,(mkK w M B' (updH (updH s.hp l .dead) l' (.arr m sz get)) s.ck).owned b→(mkK w M B' (updH (updH s.hp l .dead) l' (.arr m sz get)) s.ck).M b:=fun b hb=>(q2.own b hb).1
 have hc1:updH (updH s.hp l .dead) l' (.arr m sz get) l2=some (.cells cs):=by rw[zc hne',zc hne];exact hc
 obtain⟨b,c,xs,ty,fz,g1,g2,g3,g4,g5⟩:=hk.obj l2 _ hc
 have hB:B' l2=some (b,c):=by
  have q:=q1.names l2 (hk.nm l2 _ hc) (.cells cs) hc1
  exact q.2.trans g1
 obtain⟨p1,p2⟩:=vi q2 (l:=l2) hc1 (o':=.cells (cs.set j (.msl l' 0 m))) hB ⟨⟨cs,rfl⟩,rfl⟩ (w':=w) ⟨rfl,rfl,rfl,rfl⟩ (fun _ _=>rfl)
  (fun k' hw hB' st=>⟨b,c,xs,ty,fz,hB',by rw[hw];exact g2,g3,by simpa using g4,fun i v hv=>by
   rw[List.getElem?_set] at hv
   by_cases e:j=i
   ·subst e
    have hlt:=(List.getElem?_eq_some_iff.1 hj).1
    simp only[if_true,hlt,Option.some.injEq] at hv
    subst hv
    exact(q3 _ (g5 j _ hj)).step st ho1
   ·simp only[e,if_false] at hv
    exact((g5 i v hv).step q1 ho).step st ho1⟩)
 refine⟨M,B',hst.trans (q1.trans p1),p2,⟨by simpa using ht.1,fun t v hv=>?_⟩,(hm.step q1).step p1⟩
 rw[List.getElem?_set] at hv
 by_cases e:d=t
 ·subst e
  have hlt:=(List.getElem?_eq_some_iff.1 hd).1
  simp only[if_true,hlt,Option.some.injEq] at hv
  subst hv
  exact(q3 _ (ht.2 d _ hd)).step p1 ho1
 ·simp only[e,if_false] at hv
  exact((ht.2 t v hv).step q1 ho).step p1 ho1
end Go.Fly
end
section
namespace Go.Fly.Off
open Go
def zQ:V→Str | .str s=>s | _=>[]
def wo:V→Int | .int _ n=>n | _=>0
def zfZ:V→Bool | .bool b=>b | _=>false
def zg (l:List Str):V:=.sl l.length 1 fun i=>[.str (el l i)]
def zh (l:List Int):V:=.sl l.length 1 fun i=>[.int .i64 (el l i)]
def zi {α:Type}(f:List V→α):V→List α
 | .sl n _ g=>(List.range n).map fun i=>f (g i)
 | _=>[]
def wL:V→List Str:=zi fun r=>zQ (r.getD 0 .top)
def yr:V→List Int:=zi fun r=>wo (r.getD 0 .top)
theorem jH {α:Type}[Inhabited α](l:List α):(List.range l.length).map (fun i=>el l i)=l:=by
 apply List.ext_getElem
 ·simp
 ·intro i h1 h2
  simp[h2,el]
theorem jZ (l:List Str):wL (zg l)=l:=jH l
theorem qL (l:List Int):yr (zh l)=l:=jH l
def zf {α:Type}[Inhabited α](sz:Nat)(f:α→List V)(l:List α):V:=.sl l.length sz fun i=>f (el l i)
theorem yB {α:Type}[Inhabited α](sz:Nat)(f:α→List V)(g:List V→α)(h:∀ x,g (f x)=x)(l:List α):zi g (zf sz f l)=l:=by
 show (List.range l.length).map (fun i=>g (f (el l i)))=l
 simp only[h]
 exact jH l
def encEv (e:Ev):List V:=[.int .i64 e.num,.str e.kind,zg e.names,zh e.vals,.str e.text]
def zI:List V→Ev
 | [a,b,c,d,e]=>⟨wo a,zQ b,wL c,yr d,zQ e⟩
 | _=>default
theorem wH (e:Ev):zI (encEv e)=e:=by
 show Ev.mk e.num e.kind (wL (zg e.names)) (yr (zh e.vals)) e.text=e
 rw[jZ,qL]
def wg (t:Ty):List V:=[.str t.name,.int .i64 t.energy,.int .i64 t.factor]
def zZ (t:Ho):List V:=[.str t.name,.int .i64 t.share]
def zM (t:Fl):List V:=[.str t.name,.str t.type,.int .i64 t.day,.int .i64 t.minute,.int .i64 t.heard]
def wq (t:Mp):List V:=[.str t.name,.int .i64 t.day,zh t.levels]
def zX (t:Of):List V:=[.str t.name,.str t.house,.int .i64 t.amount,.bool t.paid]
def zP (t:Co):List V:=[.str t.name,.str t.house,.int .i64 t.day,.int .i64 t.minute,.str t.flight,.int .i64 t.answered]
def qb:List V→Ty | [a,b,c]=>⟨zQ a,wo b,wo c⟩ | _=>default
def jj:List V→Ho | [a,b]=>⟨zQ a,wo b⟩ | _=>default
def qc:List V→Fl | [a,b,c,d,e]=>⟨zQ a,zQ b,wo c,wo d,wo e⟩ | _=>default
def za8:List V→Mp | [a,b,c]=>⟨zQ a,wo b,yr c⟩ | _=>default
def qy:List V→Of | [a,b,c,d]=>⟨zQ a,zQ b,wo c,zfZ d⟩ | _=>default
def jl:List V→Co | [a,b,c,d,e,f]=>⟨zQ a,zQ b,wo c,wo d,zQ e,wo f⟩ | _=>default
theorem ziO (t:Ty):qb (wg t)=t:=rfl
theorem zcf (t:Ho):jj (zZ t)=t:=rfl
theorem zd9 (t:Fl):qc (zM t)=t:=rfl
theorem zn8 (t:Mp):za8 (wq t)=t:=by show Mp.mk t.name t.day (yr (zh t.levels))=t;rw[qL]
theorem ziP (t:Of):qy (zX t)=t:=rfl
theorem znd (t:Co):jl (zP t)=t:=rfl
def zt (r:Reg):List V :=
 [.int .i64 r.day,zf 3 wg r.types,zf 2 zZ r.houses,zf 5 zM r.flights,zf 3 wq r.maps,zf 4 zX r.offers,zf 6 zP r.complaints,.int .i64 r.fund]
def wC:List V→Reg
 | [a,b,c,d,e,f,g,h]=>⟨wo a,zi qb b,zi jj c,zi qc d,zi za8 e,zi qy f,zi jl g,wo h⟩
 | _=>{}
theorem zN (r:Reg):wC (zt r)=r:=by
 show Reg.mk r.day (zi qb (zf 3 wg r.types)) (zi jj (zf 2 zZ r.houses)) (zi qc (zf 5 zM r.flights)) (zi za8 (zf 3 wq r.maps)) (zi qy (zf 4 zX r.offers)) (zi jl (zf 6 zP r.complaints)) r.fund=r
 simp only[yB _ _ _ ziO,yB _ _ _ zcf,yB _ _ _ zd9,yB _ _ _ zn8,yB _ _ _ ziP,yB _ _ _ znd]
theorem qF (l:List Str):Pu (zg l)↔True:=iff_true_intro (vW.2 fun i _ v hv=>by rw[List.mem_singleton.1 hv];exact .str _)
theorem jr (l:List Int):Pu (zh l)↔True:=iff_true_intro (vW.2 fun i _ v hv=>by rw[List.mem_singleton.1 hv];exact .int _ _)
theorem zh2 {n:Nat}{hp:Heap}(l:List Str):frz (n+1) hp (zg l)=zg l:=ziv
theorem zh3 {n:Nat}{hp:Heap}(l:List Int):frz (n+1) hp (zh l)=zh l:=ziv
theorem vL {α:Type}[Inhabited α]{sz:Nat}{f:α→List V}(h:∀ x,∀ v∈f x,Pu v)(l:List α):Pu (zf sz f l):=vW.2 fun i _ v hv=>h _ v hv
theorem frz_rows {n:Nat}{hp:Heap}{α:Type}[Inhabited α]{sz:Nat}{f:α→List V}(l:List α):frz (n+1) hp (zf sz f l)=zf sz f l:=ziv
def zhg (r:List V):Prop:=∀ v∈r,Pu v∧jM v=true
theorem zS {v:V}{r:List V}(h:Pu v)(h2:jM v=true)(hr:zhg r):zhg (v::r):=fun u hu=>by
 rcases List.mem_cons.1 hu with rfl | hu
 ·exact⟨h,h2⟩
 ·exact hr u hu
theorem vk:zhg []:=fun v hv=>by cases hv
theorem yC (e:Ev):zhg (encEv e):=zS (.int _ _) rfl (zS (.str _) rfl (zS ((qF _).2 trivial) rfl (zS ((jr _).2 trivial) rfl (zS (.str _) rfl vk))))
theorem jK (t:Ty):zhg (wg t):=zS (.str _) rfl (zS (.int _ _) rfl (zS (.int _ _) rfl vk))
theorem qm (t:Ho):zhg (zZ t):=zS (.str _) rfl (zS (.int _ _) rfl vk)
theorem vN (t:Fl):zhg (zM t):=zS (.str _) rfl (zS (.str _) rfl (zS (.int _ _) rfl (zS (.int _ _) rfl (zS (.int _ _) rfl vk))))
theorem zao (t:Mp):zhg (wq t):=zS (.str _) rfl (zS (.int _ _) rfl (zS ((jr _).2 trivial) rfl vk))
theorem jL (t:Of):zhg (zX t):=zS (.str _) rfl (zS (.str _) rfl (zS (.int _ _) rfl (zS (.bool _) rfl vk)))
theorem vO (t:Co):zhg (zP t):=zS (.str _) rfl (zS (.str _) rfl (zS (.int _ _) rfl (zS (.int _ _) rfl (zS (.str _) rfl (zS (.int _ _) rfl vk)))))
theorem zhg.pu {r:List V}(h:zhg r):∀ v∈r,Pu v:=fun v hv=>(h v hv).1
theorem kM (l:List Ev):Pu (zf 5 encEv l)↔True:=iff_true_intro (vL (fun x=>(yC x).pu) l)
theorem zlh (l:List Ty):Pu (zf 3 wg l)↔True:=iff_true_intro (vL (fun x=>(jK x).pu) l)
theorem zlk (l:List Ho):Pu (zf 2 zZ l)↔True:=iff_true_intro (vL (fun x=>(qm x).pu) l)
theorem zll (l:List Fl):Pu (zf 5 zM l)↔True:=iff_true_intro (vL (fun x=>(vN x).pu) l)
theorem zcP (l:List Mp):Pu (zf 3 wq l)↔True:=iff_true_intro (vL (fun x=>(zao x).pu) l)
theorem zli (l:List Of):Pu (zf 4 zX l)↔True:=iff_true_intro (vL (fun x=>(jL x).pu) l)
theorem zlm (l:List Co):Pu (zf 6 zP l)↔True:=iff_true_intro (vL (fun x=>(vO x).pu) l)
theorem zl3 (r:Reg):∀ v∈zt r,Pu v:=fun v hv=>by
 simp only[zt,List.mem_cons,List.not_mem_nil,or_false] at hv
 rcases hv with rfl | rfl | rfl | rfl | rfl | rfl | rfl | rfl
 ·exact .int _ _
 ·exact(zlh _).2 trivial
 ·exact(zlk _).2 trivial
 ·exact(zll _).2 trivial
 ·exact(zcP _).2 trivial
 ·exact(zli _).2 trivial
 ·exact(zlm _).2 trivial
 ·exact .int _ _
theorem pu_ev (e:Ev):Pu (.agg (encEv e))↔True:=iff_true_intro (zhN.2 (yC e).pu)
def zz (h:Hist):List V:=zf 5 encEv h.events::zf 5 encEv h.counted::zt h.now
def jk:List V→Hist
 | a::b::r=>⟨zi zI a,zi zI b,wC r⟩
 | _=>{}
theorem wF (l:List Ev):zi zI (zf 5 encEv l)=l:=yB 5 encEv zI wH l
theorem zcd (l:List Ty):zi qb (zf 3 wg l)=l:=yB 3 wg qb ziO l
theorem zce (l:List Ho):zi jj (zf 2 zZ l)=l:=yB 2 zZ jj zcf l
theorem zcg (l:List Fl):zi qc (zf 5 zM l)=l:=yB 5 zM qc zd9 l
theorem zee (l:List Mp):zi za8 (zf 3 wq l)=l:=yB 3 wq za8 zn8 l
theorem zaz (l:List Of):zi qy (zf 4 zX l)=l:=yB 4 zX qy ziP l
theorem zaB (l:List Co):zi jl (zf 6 zP l)=l:=yB 6 zP jl znd l
theorem jb (h:Hist):jk (zz h)=h:=by
 show Hist.mk (zi zI (zf 5 encEv h.events)) (zi zI (zf 5 encEv h.counted)) (wC (zt h.now))=h
 rw[wF,wF,zN]
theorem hist_pu (h:Hist):∀ v∈zz h,Pu v:=fun v hv=>by
 simp only[zz,List.mem_cons] at hv
 rcases hv with rfl | rfl | hv
 ·exact(kM _).2 trivial
 ·exact(kM _).2 trivial
 ·exact zl3 _ v hv
def cellsOf:V→List V
 | .cptr cs=>cs
 | .agg cs=>cs
 | _=>[]
theorem zr {cs:List V}:cellsOf (.cptr cs)=cs:=rfl
theorem zq {cs:List V}:cellsOf (.agg cs)=cs:=rfl
theorem zF {s:Str}:zQ (.str s)=s:=rfl
theorem wv {k:IntKind}{n:Int}:wo (.int k n)=n:=rfl
attribute [go_sem] qF jr zh2 zh3 frz_rows kM zlh zlk zll zcP zli zlm pu_ev wF zcd zce zcg zee zaz zaB jb zN wH jZ qL ziO zcf zd9 zn8 ziP znd zr zq zF wv
theorem vD {α β:Type}[Inhabited α][Inhabited β](f:α→β)(l:List α){i:Nat}(h:i < l.length):el (l.map f) i=f (el l i):=by
 simp[el,h]
theorem yp {α:Type}[Inhabited α](l:List α){i:Nat}(h:i < l.length):el l i=l[i]:=by simp[el,h]
theorem zkn {α:Type}[Inhabited α]{sz n:Nat}{f:α→List V}{g:Nat→List V}{l:List α}(hn:n=l.length)(h:∀ i,i < l.length→g i=f (el l i)):zo (.sl n sz g) (zf sz f l):=by
 subst hn
 exact zo.sl h
theorem wP {n:Nat}{g:Nat→List V}{l:List Str}(hn:n=l.length)(h:∀ i,i < l.length→g i=[.str (el l i)]):zo (.sl n 1 g) (zg l):=by
 subst hn
 exact zo.sl h
theorem zbq {n:Nat}{g:Nat→List V}{l:List Int}(hn:n=l.length)(h:∀ i,i < l.length→g i=[.int .i64 (el l i)]):zo (.sl n 1 g) (zh l):=by
 subst hn
 exact zo.sl h
theorem zf6 (l:List Int):jM (zh l)=true:=rfl
theorem zf4 (l:List Str):jM (zg l)=true:=rfl
theorem zf5 {α:Type}[Inhabited α]{sz:Nat}{f:α→List V}(l:List α):jM (zf sz f l)=true:=rfl
theorem zcn (l:List Int):cellsV (zh l)=some [zh l]:=rfl
theorem zcl (l:List Str):cellsV (zg l)=some [zg l]:=rfl
theorem zcm {α:Type}[Inhabited α]{sz:Nat}{f:α→List V}(l:List α):cellsV (zf sz f l)=some [zf sz f l]:=rfl
theorem zd2 (l:List Int):jg (zh l)=false:=rfl
theorem zd0 (l:List Str):jg (zg l)=false:=rfl
theorem zd1 {α:Type}[Inhabited α]{sz:Nat}{f:α→List V}(l:List α):jg (zf sz f l)=false:=rfl
def arg (args:List V)(i:Nat):V:=args.getD i .top
theorem zE {a:V}{l:List V}:arg (a::l) 0=a:=rfl
theorem zV {a b:V}{l:List V}:arg (a::b::l) 1=b:=rfl
theorem zb3 {a b c:V}{l:List V}:arg (a::b::c::l) 2=c:=rfl
theorem znr {a b c d:V}{l:List V}:arg (a::b::c::d::l) 3=d:=rfl
theorem eta_ev (e:Ev):Ev.mk e.num e.kind e.names e.vals e.text=e:=rfl
theorem eta_ty (e:Ty):Ty.mk e.name e.energy e.factor=e:=rfl
theorem eta_ho (e:Ho):Ho.mk e.name e.share=e:=rfl
theorem eta_fl (e:Fl):Fl.mk e.name e.type e.day e.minute e.heard=e:=rfl
theorem eta_mp (e:Mp):Mp.mk e.name e.day e.levels=e:=rfl
theorem eta_of (e:Of):Of.mk e.name e.house e.amount e.paid=e:=rfl
theorem eta_co (e:Co):Co.mk e.name e.house e.day e.minute e.flight e.answered=e:=rfl
theorem eta_reg (r:Reg):Reg.mk r.day r.types r.houses r.flights r.maps r.offers r.complaints r.fund=r:=rfl
theorem decEv_5 {a b c d e:V}:zI [a,b,c,d,e]=⟨wo a,zQ b,wL c,yr d,zQ e⟩:=rfl
theorem decTy_3 {a b c:V}:qb [a,b,c]=⟨zQ a,wo b,wo c⟩:=rfl
theorem decHo_2 {a b:V}:jj [a,b]=⟨zQ a,wo b⟩:=rfl
theorem decFl_5 {a b c d e:V}:qc [a,b,c,d,e]=⟨zQ a,zQ b,wo c,wo d,wo e⟩:=rfl
theorem decMp_3 {a b c:V}:za8 [a,b,c]=⟨zQ a,wo b,yr c⟩:=rfl
theorem decOf_4 {a b c d:V}:qy [a,b,c,d]=⟨zQ a,zQ b,wo c,zfZ d⟩:=rfl
theorem decCo_6 {a b c d e f:V}:jl [a,b,c,d,e,f]=⟨zQ a,zQ b,wo c,wo d,zQ e,wo f⟩:=rfl
theorem zh8 {b:Bool}:zfZ (.bool b)=b:=rfl
attribute [go_sem] zE zV zb3 znr eta_ev eta_ty eta_ho eta_fl eta_mp eta_of eta_co eta_reg decEv_5 decTy_3 decHo_2 decFl_5 decMp_3 decOf_4 decCo_6 zh8
def nmC {α:Type}(enc:α→List V)(dec:List V→α)(nm:α→Str):Contract:=fun _ args=>⟨∃ t,args=[.agg (enc t)],.str (nm (dec (cellsOf (arg args 0)))),none⟩
def yK {α:Type}[Inhabited α](sz:Nat)(enc:α→List V)(dec:List V→α)(nm:α→Str)(k:FuncId):Contract:=fun _ args =>
 ⟨∃ l:List α,args=[zf sz enc l,.fn (.func k) [] []]∧l.length≤1000000,zg ((zi dec (arg args 0)).map nm),none⟩
def zd5 (l:List Str)(s:Str):Int:=if s∈l then (zO l s:Int) else -1
def zb4 (n:Nat)(get:Nat→List V):Prop:=n≤1000000∧∀ i,i < n→get i=[.str (zQ ((get i).getD 0 .top))]
def zmp:Contract:=fun _ args=>⟨∃ n get s,args=[.sl n 1 get,.str s]∧zb4 n get,.int .i64 (zd5 (wL (arg args 0)) (zQ (arg args 1))),none⟩
def vT:Contract:=fun _ args=>⟨∃ n get s,args=[.sl n 1 get,.str s]∧zb4 n get,.bool (decide (zQ (arg args 1)∈wL (arg args 0))),none⟩
attribute [go_sem] nmC yK zmp vT
theorem zbv {l:List Str}(h:l.length≤1000000):zb4 l.length fun i=>[.str (el l i)]:=⟨h,fun i hi=>rfl⟩
theorem dec_sl {n sz:Nat}{get:Nat→List V}:wL (.sl n sz get)=(List.range n).map fun i=>zQ ((get i).getD 0 .top):=rfl
theorem jD {α:Type}[Inhabited α]{f:α→Str}{l:List α}{n:Nat}{g:Nat→List V}(hn:n=l.length)(h:∀ i,i < l.length→g i=[.str (f (el l i))]):zo (.sl n 1 g) (zg (l.map f)) :=
 wP (by simpa using hn) fun i hi=>by rw[h i (by simpa using hi),vD f l (by simpa using hi)]
theorem yx {s:Str}:zhg [V.str s]:=zS (.str _) rfl vk
theorem qG {n:Int}:zhg [V.int .i64 n]:=zS (.int _ _) rfl vk
theorem yG {l:List Str}{s:Str}(h:s∈l):zO l s < l.length:=by
 unfold zO
 exact List.findIdx_lt_length_of_exists ⟨s,h,by simp⟩
theorem place_at {l:List Str}{s:Str}(h:s∈l):el l (zO l s)=s:=by
 have hlt:=yG h
 have q:decide (l[zO l s]=s)=true:=List.findIdx_getElem (w:=hlt) (p:=fun x=>decide (x=s)) (xs:=l)
 rw[yp _ hlt]
 exact of_decide_eq_true q
theorem place_of {l:List Str}{s:Str}{i:Nat}(hi:i < l.length)(h:el l i=s)(hb:∀ j,j < i→el l j≠s):zO l s=i:=by
 unfold zO
 rw[List.findIdx_eq hi]
 refine⟨by rw[yp _ hi] at h;simpa using h,fun j hj=>?_⟩
 have:=hb j hj
 rw[yp _ (by omega)] at this
 simpa using this
theorem zc3 {l:List Str}{s:Str}{i:Nat}(hi:i < l.length)(h:el l i=s)(hb:∀ j,j < i→el l j≠s):zd5 l s=i:=by
 unfold zd5
 rw[if_pos (by rw[← h,yp _ hi];exact List.getElem_mem hi),place_of hi h hb]
theorem jS {l:List Str}{s:Str}(hb:∀ j,j < l.length→el l j≠s):zd5 l s=-1:=by
 unfold zd5
 rw[if_neg fun h=>?_]
 exact hb _ (yG h) (place_at h)
theorem zd4 {l:List Str}{s:Str}:decide (0≤zd5 l s)=decide (s∈l):=by
 unfold zd5
 by_cases h:s∈l <;> simp[h]
structure RL (r:Reg):Prop where
 types:r.types.length≤1000000
 houses:r.houses.length≤1000000
 flights:r.flights.length≤1000000
 maps:r.maps.length≤1000000
 offers:r.offers.length≤1000000
 complaints:r.complaints.length≤1000000
theorem RL.names {r:Reg}(h:RL r)(c:Int):(r.namesOf c).length≤1000000:=by
 unfold Reg.namesOf
 repeat' split
 all_goals rw[List.length_map]
 ·exact h.types
 ·exact h.houses
 ·exact h.flights
 ·exact h.maps
 ·exact h.offers
 ·exact h.complaints
def zaS:Contract:=fun _ args=>⟨∃ r c,args=[.cptr (zt r),.int .u8 c]∧RL r,zg ((wC (cellsOf (arg args 0))).namesOf (wo (arg args 1))),none⟩
def yY:Contract:=fun _ args=>⟨∃ r c s,args=[.cptr (zt r),.int .u8 c,.str s]∧RL r,.int .i64 (zd5 ((wC (cellsOf (arg args 0))).namesOf (wo (arg args 1))) (zQ (arg args 2))),none⟩
def vu {α:Type}(c:Int)(enc:α→List V)(f:Reg→Str→α):Contract:=fun _ args =>
 ⟨∃ r s,args=[.cptr (zt r),.str s]∧RL r∧s∈r.namesOf c,.cptr (enc (f (wC (cellsOf (arg args 0))) (zQ (arg args 1)))),none⟩
attribute [go_sem] zaS yY vu
theorem yz {l:List Str}{s:Str}(h:s∈l):zd5 l s=(zO l s:Nat):=if_pos h
theorem zn2 (r:Reg):List.drop 1 (zt r)=[zf 3 wg r.types,zf 2 zZ r.houses,zf 5 zM r.flights,zf 3 wq r.maps,zf 4 zX r.offers,zf 6 zP r.complaints,.int .i64 r.fund]:=rfl
theorem zn1 (r:Reg):List.drop 2 (zt r)=[zf 2 zZ r.houses,zf 5 zM r.flights,zf 3 wq r.maps,zf 4 zX r.offers,zf 6 zP r.complaints,.int .i64 r.fund]:=rfl
theorem zn0 (r:Reg):List.drop 3 (zt r)=[zf 5 zM r.flights,zf 3 wq r.maps,zf 4 zX r.offers,zf 6 zP r.complaints,.int .i64 r.fund]:=rfl
theorem zmZ (r:Reg):List.drop 4 (zt r)=[zf 3 wq r.maps,zf 4 zX r.offers,zf 6 zP r.complaints,.int .i64 r.fund]:=rfl
theorem zmY (r:Reg):List.drop 5 (zt r)=[zf 4 zX r.offers,zf 6 zP r.complaints,.int .i64 r.fund]:=rfl
theorem zmX (r:Reg):List.drop 6 (zt r)=[zf 6 zP r.complaints,.int .i64 r.fund]:=rfl
theorem zmW (r:Reg):List.drop 7 (zt r)=[.int .i64 r.fund]:=rfl
theorem head_reg (r:Reg):(zt r).head?=some (.int .i64 r.day):=rfl
attribute [go_sem] zn2 zn1 zn0 zmZ zmY zmX zmW head_reg
theorem all_reg (r:Reg):(∀ v,v∈zt r→Pu v)↔True:=iff_true_intro (zl3 r)
theorem all_hist (r:Hist):(∀ v,v∈zz r→Pu v)↔True:=iff_true_intro (hist_pu r)
theorem all_ev (r:Ev):(∀ v,v∈encEv r→Pu v)↔True:=iff_true_intro (yC r).pu
theorem all_ty (r:Ty):(∀ v,v∈wg r→Pu v)↔True:=iff_true_intro (jK r).pu
theorem all_ho (r:Ho):(∀ v,v∈zZ r→Pu v)↔True:=iff_true_intro (qm r).pu
theorem all_fl (r:Fl):(∀ v,v∈zM r→Pu v)↔True:=iff_true_intro (vN r).pu
theorem all_mp (r:Mp):(∀ v,v∈wq r→Pu v)↔True:=iff_true_intro (zao r).pu
theorem all_of (r:Of):(∀ v,v∈zX r→Pu v)↔True:=iff_true_intro (jL r).pu
theorem all_co (r:Co):(∀ v,v∈zP r→Pu v)↔True:=iff_true_intro (vO r).pu
attribute [go_sem] all_reg all_hist all_ev all_ty all_ho all_fl all_mp all_of all_co
theorem pu_tyU (n sz:Nat)(f0:Nat→Str)(f1:Nat→Int)(f2:Nat→Int):Pu (.sl n sz fun i=>[.str (f0 i),.int .i64 (f1 i),.int .i64 (f2 i)])↔True:=iff_true_intro (vW.2 fun i _ v hv=>by
 simp only[List.mem_cons,List.not_mem_nil,or_false] at hv
 rcases hv with rfl | rfl | rfl
 ·exact .str _
 ·exact .int _ _
 ·exact .int _ _)
theorem dec_tysV (l:List Ty):zi qb (.sl l.length 3 fun i=>wg (el l i))=l:=zcd l
theorem pu_tysV (l:List Ty):Pu (.sl l.length 3 fun i=>wg (el l i))↔True:=zlh l
theorem pu_hoU (n sz:Nat)(f0:Nat→Str)(f1:Nat→Int):Pu (.sl n sz fun i=>[.str (f0 i),.int .i64 (f1 i)])↔True:=iff_true_intro (vW.2 fun i _ v hv=>by
 simp only[List.mem_cons,List.not_mem_nil,or_false] at hv
 rcases hv with rfl | rfl
 ·exact .str _
 ·exact .int _ _)
theorem dec_hosV (l:List Ho):zi jj (.sl l.length 2 fun i=>zZ (el l i))=l:=zce l
theorem pu_hosV (l:List Ho):Pu (.sl l.length 2 fun i=>zZ (el l i))↔True:=zlk l
theorem pu_flU (n sz:Nat)(f0:Nat→Str)(f1:Nat→Str)(f2:Nat→Int)(f3:Nat→Int)(f4:Nat→Int):Pu (.sl n sz fun i=>[.str (f0 i),.str (f1 i),.int .i64 (f2 i),.int .i64 (f3 i),.int .i64 (f4 i)])↔True:=iff_true_intro (vW.2 fun i _ v hv=>by
 simp only[List.mem_cons,List.not_mem_nil,or_false] at hv
 rcases hv with rfl | rfl | rfl | rfl | rfl
 ·exact .str _
 ·exact .str _
 ·exact .int _ _
 ·exact .int _ _
 ·exact .int _ _)
theorem dec_flsV (l:List Fl):zi qc (.sl l.length 5 fun i=>zM (el l i))=l:=zcg l
theorem pu_flsV (l:List Fl):Pu (.sl l.length 5 fun i=>zM (el l i))↔True:=zll l
theorem pu_mpU (n sz:Nat)(f0:Nat→Str)(f1:Nat→Int)(f2:Nat→List Int):Pu (.sl n sz fun i=>[.str (f0 i),.int .i64 (f1 i),zh (f2 i)])↔True:=iff_true_intro (vW.2 fun i _ v hv=>by
 simp only[List.mem_cons,List.not_mem_nil,or_false] at hv
 rcases hv with rfl | rfl | rfl
 ·exact .str _
 ·exact .int _ _
 ·exact(jr _).2 trivial)
theorem dec_mpsV (l:List Mp):zi za8 (.sl l.length 3 fun i=>wq (el l i))=l:=zee l
theorem pu_mpsV (l:List Mp):Pu (.sl l.length 3 fun i=>wq (el l i))↔True:=zcP l
theorem pu_ofU (n sz:Nat)(f0:Nat→Str)(f1:Nat→Str)(f2:Nat→Int)(f3:Nat→Bool):Pu (.sl n sz fun i=>[.str (f0 i),.str (f1 i),.int .i64 (f2 i),.bool (f3 i)])↔True:=iff_true_intro (vW.2 fun i _ v hv=>by
 simp only[List.mem_cons,List.not_mem_nil,or_false] at hv
 rcases hv with rfl | rfl | rfl | rfl
 ·exact .str _
 ·exact .str _
 ·exact .int _ _
 ·exact .bool _)
theorem dec_ofsV (l:List Of):zi qy (.sl l.length 4 fun i=>zX (el l i))=l:=zaz l
theorem pu_ofsV (l:List Of):Pu (.sl l.length 4 fun i=>zX (el l i))↔True:=zli l
theorem pu_coU (n sz:Nat)(f0:Nat→Str)(f1:Nat→Str)(f2:Nat→Int)(f3:Nat→Int)(f4:Nat→Str)(f5:Nat→Int):Pu (.sl n sz fun i=>[.str (f0 i),.str (f1 i),.int .i64 (f2 i),.int .i64 (f3 i),.str (f4 i),.int .i64 (f5 i)])↔True:=iff_true_intro (vW.2 fun i _ v hv=>by
 simp only[List.mem_cons,List.not_mem_nil,or_false] at hv
 rcases hv with rfl | rfl | rfl | rfl | rfl | rfl
 ·exact .str _
 ·exact .str _
 ·exact .int _ _
 ·exact .int _ _
 ·exact .str _
 ·exact .int _ _)
theorem dec_cosV (l:List Co):zi jl (.sl l.length 6 fun i=>zP (el l i))=l:=zaB l
theorem pu_cosV (l:List Co):Pu (.sl l.length 6 fun i=>zP (el l i))↔True:=zlm l
theorem dec_evsV (l:List Ev):zi zI (.sl l.length 5 fun i=>encEv (el l i))=l:=wF l
theorem pu_evsV (l:List Ev):Pu (.sl l.length 5 fun i=>encEv (el l i))↔True:=kM l
theorem pu_strsU (n sz:Nat)(f:Nat→Str):Pu (.sl n sz fun i=>[.str (f i)])↔True:=iff_true_intro (vW.2 fun i _ v hv=>by rw[List.mem_singleton.1 hv];exact .str _)
theorem zn7 (l:List Str):wL (.sl l.length 1 fun i=>[.str (el l i)])=l:=jZ l
theorem znb (l:List Int):yr (.sl l.length 1 fun i=>[.int .i64 (el l i)])=l:=qL l
theorem decReg_8 {a b c d e f g h:V}:wC [a,b,c,d,e,f,g,h]=⟨wo a,zi qb b,zi jj c,zi qc d,zi za8 e,zi qy f,zi jl g,wo h⟩:=rfl
attribute [go_sem] pu_tyU dec_tysV pu_tysV pu_hoU dec_hosV pu_hosV pu_flU dec_flsV pu_flsV pu_mpU dec_mpsV pu_mpsV pu_ofU dec_ofsV pu_ofsV pu_coU dec_cosV pu_cosV dec_evsV pu_evsV pu_strsU zn7 znb decReg_8
theorem zkq:type_of% (And.intro @zf6 (And.intro @zf4 (And.intro @zf5 (And.intro @zcn (And.intro @zcl (And.intro @zcm (And.intro @zd2 (And.intro @zd0 (@zd1))))))))):=And.intro @zf6 (And.intro @zf4 (And.intro @zf5 (And.intro @zcn (And.intro @zcl (And.intro @zcm (And.intro @zd2 (And.intro @zd0 (@zd1))))))))
theorem zj:type_of% (And.intro @wy (And.intro @zb5 (@zkq))):=And.intro @wy (And.intro @zb5 (@zkq))
end Go.Fly.Off
end
