/- Part of a proof. No conditions. -/
import Derived.Test.YtkfbgillhhhdgaaGreatDoorAF
set_option linter.unusedSimpArgs false
set_option linter.unusedVariables false
section
namespace Go.Fly
open Go
attribute [go_sem] opE efV efP efB efS vy zk9 zbl ev putTm ofValue zaN ld sto ve takeT onV yI zfF yH zd3 qI kB pslB zfq slV zab zgf vC appendR appendN appendZ reV imV cpxV cpxB zk5 copyB appD znt capTV zfy zml qW jg wM iceV zcv zm isOwn yJ isInl wi isWr wrKey selC zfn zfm zgM zgI toVal zhm zah undefV zdc yt iceS yj zcC binU zbN binV intV zgY strV unV kn zk6 convL zcx zni znh zdY extV zjn y7 zct rdOf wlOf vQ jd Rd.free zkl zem zc4 qa jM cellsV kN zb0 rep zc2 St.enter kp yR zgo zki
theorem ziH {X:Cx}{D:zL}{s:St}{Q:Exit→St→Prop}:exC X D .skip s Q=Q .normal s:=by rw[exC]
theorem zmQ {X:Cx}{D:zL}{l:Nat}{s:St}{Q:Exit→St→Prop}:exC X D (.label l) s Q=Q .normal s:=by rw[exC]
theorem ziI {X:Cx}{D:zL}{l:Nat}{s:St}{Q:Exit→St→Prop}:exC X D (.exit l) s Q=Q (.exit l) s:=by rw[exC]
theorem zmO {X:Cx}{D:zL}{s:St}{Q:Exit→St→Prop}:exC X D .ret s Q=Q .ret s:=by rw[exC]
theorem exC_seq {X:Cx}{D:zL}{x y:Code}{s:St}{Q:Exit→St→Prop}:exC X D (.seq x y) s Q=exC X D x s (zer (fun s'=>exC X D y s' Q) Q):=by rw[exC]
def cB (v:V)(A B:Prop):Prop:=match v with
 | .bool t=>(t=true→A)∧(t=false→B)
 | _=>False
theorem cB_bool {t:Bool}{A B:Prop}:cB (.bool t) A B=((t=true→A)∧(t=false→B)):=by rw[cB]
@[congr] theorem cB_congr {v v':V}{A B:Prop}(h:v=v'):cB v A B=cB v' A B:=by subst h;rfl
theorem exC_cond {X:Cx}{D:zL}{c:Operand}{x y:Code}{s:St}{Q:Exit→St→Prop}:exC X D (.cond c x y) s Q=cB (ev X s c) (exC X D x s Q) (exC X D y s Q):=by
 rw[exC];unfold cB;rfl
theorem zmR {X:Cx}{D:zL}{id:Nat}{c:Code}{s:St}{Q:Exit→St→Prop}:exC X D (.block id c) s Q=exC X D c s (jB id Q):=by rw[exC]
theorem zmN {X:Cx}{D:zL}{c:Code}{s:St}{Q:Exit→St→Prop}:exC X D (.scope c) s Q=exC X D c s (zaR Q):=by rw[exC]
theorem zjZ {X:Cx}{D:zL}{id:Nat}{ops:Array Oper}{ck:Nat}{tm:List V}{hp:Heap}{Q:Exit→St→Prop}:exC X D (.region id ops false) ⟨ck,tm,hp⟩ Q=vB X ops ops.toList ⟨ck+1,tm,hp⟩ (Q .normal):=by rw[exC]
theorem exC_draw {X:Cx}{D:zL}{id:Nat}{ops:Array Oper}{ck:Nat}{tm:List V}{hp:Heap}{Q:Exit→St→Prop}:exC X D (.region id ops true) ⟨ck,tm,hp⟩ Q=exR X ops (D id) ⟨ck+1,tm,hp⟩ (Q .normal):=by rw[exC]
theorem exR_nil {X:Cx}{ops:Array Oper}{s:St}{Kn:St→Prop}{t:List (List Nat)}:exR X ops ([]::t) s Kn=exD X ops (ops.toList.zip ([]::t)) 0 s [] Kn:=by rw[exR];intros;simp_all
theorem exR_last {X:Cx}{ops:Array Oper}{s:St}{Kn:St→Prop}{n:Nat}{m:List Nat}{t:List (List Nat)}:exR X ops ((n::m)::t) s Kn=exD X ops (ops.toList.zip t) 0 s [] (fun s'=>exT X (vw ops.toList t) s' Kn):=by rw[exR]
theorem exT_nil {X:Cx}{s:St}{Kn:St→Prop}:exT X [] s Kn=Kn s:=by rw[exT]
theorem exT_cons {X:Cx}{o:Oper}{l:List Oper}{s:St}{Kn:St→Prop}:exT X (o::l) s Kn=yD X o s (fun s'=>exT X l s' Kn):=by rw[exT]
theorem zg6 {l:List Oper}:vw l []=l:=by cases l <;> rfl
theorem zet {o:Oper}{l:List Oper}{x:List Nat}{t:List (List Nat)}:vw (o::l) (x::t)=vw l t:=by rw[vw]
@[congr] theorem exT_congr {X:Cx}{l l':List Oper}{s s':St}{Kn:St→Prop}(h1:l=l')(h3:s=s'):exT X l s Kn=exT X l' s' Kn:=by subst h1;subst h3;rfl
@[congr] theorem exR_congr {X:Cx}{ops:Array Oper}{t t':List (List Nat)}{s s':St}{Kn:St→Prop}(h1:t=t')(h3:s=s'):exR X ops t s Kn=exR X ops t' s' Kn:=by subst h1;subst h3;rfl
theorem exC_loop {X:Cx}{D:zL}{c:Code}{s:St}{Q:Exit→St→Prop}:exC X D (.loop c) s Q=zB X D (.loop c) s Q:=by rw[exC]
theorem zmP {X:Cx}{D:zL}{a:Operand}{b:Array Tmp}{c d:Code}{s:St}{Q:Exit→St→Prop}:exC X D (.rangeFunc a b c d) s Q=zB X D (.rangeFunc a b c d) s Q:=by rw[exC]
theorem zmL {X:Cx}{ops:Array Oper}{s:St}{Kn:St→Prop}:vB X ops [] s Kn=Kn s:=by rw[vB]
theorem exD_nil {X:Cx}{ops:Array Oper}{i:Nat}{s:St}{log:List kv}{Kn:St→Prop}:exD X ops [] i s log Kn=Kn s:=by rw[exD]
def gV (v:V)(w:Bool)(A B C:Prop):Prop:=match v with
 | .bool b=>(b=w→A)∧(b=!w→B)
 | .tup []=>C
 | _=>False
theorem gV_bool {b w:Bool}{A B C:Prop}:gV (.bool b) w A B C=((b=w→A)∧(b=!w→B)):=by rw[gV]
theorem gV_out {w:Bool}{A B C:Prop}:gV (.tup []) w A B C=C:=by rw[gV]
@[congr] theorem gV_congr {v v':V}{w:Bool}{A B C:Prop}(h:v=v'):gV v w A B C=gV v' w A B C:=by subst h;rfl
theorem zjY {X:Cx}{ops:Array Oper}{d:Option Tmp}{o:Op}{t:TypeId}{p:String}{a:Array Edge}{rest:List Oper}{ck:Nat}{tm:List V}{hp:Heap}{Kn:St→Prop} :
 vB X ops (⟨d,o,t,p,a,none⟩::rest) ⟨ck,tm,hp⟩ Kn=yD X ⟨d,o,t,p,a,none⟩ ⟨ck,tm,hp⟩ (fun s'=>vB X ops rest s' Kn):=by rw[vB]
def gS (e:Option Tmp)(X:Cx)(ops:Array Oper)(o:Oper)(rest:List Oper)(ck:Nat)(tm:List V)(hp:Heap)(Kn:St→Prop)(w:Bool):Prop:=match e with
 | some e=>gV (tm.getD e .top) w (yD X o ⟨ck,tm.set e (.bool w),hp⟩ (fun s'=>vB X ops rest s' Kn))
  (vB X ops rest ⟨ck,putTm (tm.set e (.bool (!w))) o.dst undefV,hp⟩ Kn) (vB X ops rest ⟨ck,putTm tm o.dst undefV,hp⟩ Kn)
 | none=>False
theorem gS_some {e:Tmp}{X:Cx}{ops:Array Oper}{o:Oper}{rest:List Oper}{ck:Nat}{tm:List V}{hp:Heap}{Kn:St→Prop}{w:Bool}:gS (some e) X ops o rest ck tm hp Kn w =
 gV (tm.getD e .top) w (yD X o ⟨ck,tm.set e (.bool w),hp⟩ (fun s'=>vB X ops rest s' Kn))
  (vB X ops rest ⟨ck,putTm (tm.set e (.bool (!w))) o.dst undefV,hp⟩ Kn) (vB X ops rest ⟨ck,putTm tm o.dst undefV,hp⟩ Kn):=by rw[gS]
@[congr] theorem gS_congr {e e':Option Tmp}{X:Cx}{ops:Array Oper}{o:Oper}{rest:List Oper}{ck:Nat}{tm:List V}{hp:Heap}{Kn:St→Prop}{w:Bool}(h:e=e'):gS e X ops o rest ck tm hp Kn w=gS e' X ops o rest ck tm hp Kn w:=by subst h;rfl
theorem exOps_if {X:Cx}{ops:Array Oper}{d:Option Tmp}{o:Op}{t:TypeId}{p:String}{a:Array Edge}{j:Nat}{w:Bool}{rest:List Oper}{ck:Nat}{tm:List V}{hp:Heap}{Kn:St→Prop} :
 vB X ops (⟨d,o,t,p,a,some (j,w)⟩::rest) ⟨ck,tm,hp⟩ Kn=gS ((ops[j]?).bind (·.dst)) X ops ⟨d,o,t,p,a,some (j,w)⟩ rest ck tm hp Kn w:=by rw[vB];unfold gS gV;rfl
def gD (e:Option Tmp)(X:Cx)(ops:Array Oper)(o:Oper)(un:List Nat)(rest:List (Oper×List Nat))(i ck:Nat)(tm:List V)(hp:Heap)(log:List kv)(Kn:St→Prop)(w:Bool):Prop:=match e with
 | some e=>gV (tm.getD e .top) w (zby X o un i log (fun s' log'=>exD X ops rest (i+1) s' log' Kn) ⟨ck,tm.set e (.bool w),hp⟩)
  (exD X ops rest (i+1) ⟨ck,putTm (tm.set e (.bool (!w))) o.dst undefV,hp⟩ log Kn) (exD X ops rest (i+1) ⟨ck,putTm tm o.dst undefV,hp⟩ log Kn)
 | none=>False
theorem gD_some {e:Tmp}{X:Cx}{ops:Array Oper}{o:Oper}{un:List Nat}{rest:List (Oper×List Nat)}{i ck:Nat}{tm:List V}{hp:Heap}{log:List kv}{Kn:St→Prop}{w:Bool}:gD (some e) X ops o un rest i ck tm hp log Kn w =
 gV (tm.getD e .top) w (zby X o un i log (fun s' log'=>exD X ops rest (i+1) s' log' Kn) ⟨ck,tm.set e (.bool w),hp⟩)
  (exD X ops rest (i+1) ⟨ck,putTm (tm.set e (.bool (!w))) o.dst undefV,hp⟩ log Kn) (exD X ops rest (i+1) ⟨ck,putTm tm o.dst undefV,hp⟩ log Kn):=by rw[gD]
@[congr] theorem gD_congr {e e':Option Tmp}{X:Cx}{ops:Array Oper}{o:Oper}{un:List Nat}{rest:List (Oper×List Nat)}{i ck:Nat}{tm:List V}{hp:Heap}{log:List kv}{Kn:St→Prop}{w:Bool}(h:e=e'):gD e X ops o un rest i ck tm hp log Kn w=gD e' X ops o un rest i ck tm hp log Kn w:=by subst h;rfl
theorem exD_cons {X:Cx}{ops:Array Oper}{d:Option Tmp}{o:Op}{t:TypeId}{p:String}{a:Array Edge}{un:List Nat}{rest:List (Oper×List Nat)}{i:Nat}{ck:Nat}{tm:List V}{hp:Heap}{log:List kv}{Kn:St→Prop} :
 exD X ops ((⟨d,o,t,p,a,none⟩,un)::rest) i ⟨ck,tm,hp⟩ log Kn=zby X ⟨d,o,t,p,a,none⟩ un i log (fun s' log'=>exD X ops rest (i+1) s' log' Kn) ⟨ck,tm,hp⟩:=by rw[exD]
theorem exD_if {X:Cx}{ops:Array Oper}{d:Option Tmp}{o:Op}{t:TypeId}{p:String}{a:Array Edge}{j:Nat}{w:Bool}{un:List Nat}{rest:List (Oper×List Nat)}{i ck:Nat}{tm:List V}{hp:Heap}{log:List kv}{Kn:St→Prop} :
 exD X ops ((⟨d,o,t,p,a,some (j,w)⟩,un)::rest) i ⟨ck,tm,hp⟩ log Kn=gD ((ops[j]?).bind (·.dst)) X ops ⟨d,o,t,p,a,some (j,w)⟩ un rest i ck tm hp log Kn w:=by rw[exD];unfold gD gV;rfl
theorem zmB {ck:Nat}{tm:List V}{hp:Heap}{d:Option Tmp}{v:V}{Kn:St→Prop}:zaw ⟨ck,tm,hp⟩ d (some v) Kn=Kn ⟨ck,putTm tm d v,hp⟩:=by rw[zaw]
theorem zmD {ck:Nat}{tm:List V}{hp:Heap}{d:Option Tmp}{p:Prop}{v:V}{Kn:St→Prop}:zax ⟨ck,tm,hp⟩ d (some (p,v)) Kn=(p∧Kn ⟨ck,putTm tm d v,hp⟩):=by rw[zax]
theorem zmF {ck:Nat}{tm:List V}{hp hp':Heap}{d:Option Tmp}{p:Prop}{v:V}{Kn:St→Prop}:zaU ⟨ck,tm,hp⟩ d (some (p,v,hp')) Kn=(p∧Kn ⟨ck,putTm tm d v,hp'⟩):=by rw[zaU]
def finB (ck:Nat)(tm:List V)(d:Option Tmp)(r:Option (V×Heap))(Kn:St→Prop):Prop:=match r with
 | some (v,hp')=>Kn ⟨ck,putTm tm d v,hp'⟩
 | none=>False
theorem zmI {ck:Nat}{tm:List V}{hp':Heap}{d:Option Tmp}{v:V}{Kn:St→Prop}:finB ck tm d (some (v,hp')) Kn=Kn ⟨ck,putTm tm d v,hp'⟩:=by rw[finB]
def finS (ck:Nat)(tm:List V)(d:Option Tmp)(r:Option (Prop×Heap))(Kn:St→Prop):Prop:=match r with
 | some (p,hp')=>p∧Kn ⟨ck,putTm tm d .top,hp'⟩
 | none=>False
theorem zmC {ck:Nat}{tm:List V}{hp':Heap}{d:Option Tmp}{p:Prop}{Kn:St→Prop}:finS ck tm d (some (p,hp')) Kn=(p∧Kn ⟨ck,putTm tm d .top,hp'⟩):=by rw[finS]
def finA (ck:Nat)(tm:List V)(hp:Heap)(d:Option Tmp)(r:Option V)(Kn:St→Prop):Prop:=match r with
 | some z=>finB ck tm d (zcC ⟨ck,tm,hp⟩ d z) Kn
 | none=>False
theorem zmJ {ck:Nat}{tm:List V}{hp:Heap}{d:Option Tmp}{z:V}{Kn:St→Prop}:finA ck tm hp d (some z) Kn=finB ck tm d (zcC ⟨ck,tm,hp⟩ d z) Kn:=by rw[finA]
def finC (X:Cx)(ck:Nat)(tm:List V)(hp:Heap)(d:Option Tmp)(f:FuncId)(args:List V)(r:Option Contract)(Kn:St→Prop):Prop:=match r with
 | some C=>zl X.P f∧kp ⟨ck,tm,hp⟩ d C args∧Kn ⟨ck,putTm tm d (C (ck,d.getD 0) (args.map (frz 5 hp))).val,zc4 hp (ck,d.getD 0) (C (ck,d.getD 0) (args.map (frz 5 hp))).obj⟩
 | none=>(zl X.P f∧(X.Ok→zp X hp ck f args (fun r hp' ck'=>Kn ⟨ck',putTm tm d r,hp'⟩)))∨ExtT X.P hp f args (fun r=>Kn ⟨ck,putTm tm d r,hp⟩)
theorem zmG {X:Cx}{ck:Nat}{tm:List V}{hp:Heap}{d:Option Tmp}{f:FuncId}{args:List V}{C:Contract}{Kn:St→Prop}:finC X ck tm hp d f args (some C) Kn =
 (zl X.P f∧kp ⟨ck,tm,hp⟩ d C args∧Kn ⟨ck,putTm tm d (C (ck,d.getD 0) (args.map (frz 5 hp))).val,zc4 hp (ck,d.getD 0) (C (ck,d.getD 0) (args.map (frz 5 hp))).obj⟩):=by rw[finC]
theorem zmH {X:Cx}{ck:Nat}{tm:List V}{hp:Heap}{d:Option Tmp}{f:FuncId}{args:List V}{Kn:St→Prop}:finC X ck tm hp d f args none Kn =
 ((zl X.P f∧(X.Ok→zp X hp ck f args (fun r hp' ck'=>Kn ⟨ck',putTm tm d r,hp'⟩)))∨ExtT X.P hp f args (fun r=>Kn ⟨ck,putTm tm d r,hp⟩)):=by rw[finC]
@[congr] theorem finV_congr {s:St}{d:Option Tmp}{r r':Option V}{Kn:St→Prop}(h:r=r'):zaw s d r Kn=zaw s d r' Kn:=by subst h;rfl
@[congr] theorem finP_congr {s:St}{d:Option Tmp}{r r':Option (Prop×V)}{Kn:St→Prop}(h:r=r'):zax s d r Kn=zax s d r' Kn:=by subst h;rfl
@[congr] theorem finH_congr {s:St}{d:Option Tmp}{r r':Option (Prop×V×Heap)}{Kn:St→Prop}(h:r=r'):zaU s d r Kn=zaU s d r' Kn:=by subst h;rfl
@[congr] theorem finB_congr {ck:Nat}{tm:List V}{d:Option Tmp}{r r':Option (V×Heap)}{Kn:St→Prop}(h:r=r'):finB ck tm d r Kn=finB ck tm d r' Kn:=by subst h;rfl
@[congr] theorem finS_congr {ck:Nat}{tm:List V}{d:Option Tmp}{r r':Option (Prop×Heap)}{Kn:St→Prop}(h:r=r'):finS ck tm d r Kn=finS ck tm d r' Kn:=by subst h;rfl
@[congr] theorem finA_congr {ck:Nat}{tm:List V}{hp:Heap}{d:Option Tmp}{r r':Option V}{Kn:St→Prop}(h:r=r'):finA ck tm hp d r Kn=finA ck tm hp d r' Kn:=by subst h;rfl
@[congr] theorem finC_congr {X:Cx}{ck:Nat}{tm:List V}{hp:Heap}{d:Option Tmp}{f:FuncId}{args args':List V}{r r':Option Contract}{Kn:St→Prop}(h:r=r')(h2:args=args'):finC X ck tm hp d f args r Kn=finC X ck tm hp d f args' r' Kn:=by subst h;subst h2;rfl
section
variable {X:Cx} {d:Option Tmp} {ty:TypeId} {ps:String} {af:Array Edge} {g:Option (Nat×Bool)} {ck:Nat} {tm:List V} {hp:Heap} {Kn:St→Prop}
theorem zlt {x:Operand}:yD X ⟨d,.move x,ty,ps,af,g⟩ ⟨ck,tm,hp⟩ Kn=Kn ⟨ck,putTm tm d (ev X ⟨ck,tm,hp⟩ x),hp⟩:=by rw[yD]
theorem zf3 {x:Operand}:yD X ⟨d,.assign x,ty,ps,af,g⟩ ⟨ck,tm,hp⟩ Kn=Kn ⟨ck,putTm tm d (ev X ⟨ck,tm,hp⟩ x),hp⟩:=by rw[yD]
theorem zlr {c a b:Operand}:yD X ⟨d,.pick c a b,ty,ps,af,g⟩ ⟨ck,tm,hp⟩ Kn=zaw ⟨ck,tm,hp⟩ d (zjn (ev X ⟨ck,tm,hp⟩ c) (ev X ⟨ck,tm,hp⟩ a) (ev X ⟨ck,tm,hp⟩ b)) Kn:=by rw[yD]
theorem zhT {t:TypeId}:yD X ⟨d,.alloc t,ty,ps,af,g⟩ ⟨ck,tm,hp⟩ Kn=finA ck tm hp d (tzero X.P t) Kn:=by
 rw[yD];simp only[zaw,false_or];unfold finA finB;rfl
theorem op_box {t:TypeId}{x:Operand}:yD X ⟨d,.box t x,ty,ps,af,g⟩ ⟨ck,tm,hp⟩ Kn=if zcv X d=true then zax ⟨ck,tm,hp⟩ d (iceV (ev X ⟨ck,tm,hp⟩ x)) Kn else finB ck tm d (zcC ⟨ck,tm,hp⟩ d (ev X ⟨ck,tm,hp⟩ x)) Kn:=by
 rw[yD];unfold finB;rfl
theorem zhS {t:TypeId}{parts:Array (Nat×Operand)}:yD X ⟨d,.build t parts,ty,ps,af,g⟩ ⟨ck,tm,hp⟩ Kn=zaw ⟨ck,tm,hp⟩ d (zdc X.P t (parts.toList.map fun x=>(x.1,ev X ⟨ck,tm,hp⟩ x.2))) Kn:=by rw[yD]
theorem kP {t:TypeId}{len:Nat}{parts:Array (Nat×Operand)}:yD X ⟨d,.buildSlice t len parts,ty,ps,af,g⟩ ⟨ck,tm,hp⟩ Kn =
 if zcv X d=true then zaU ⟨ck,tm,hp⟩ d (iceS X.P ⟨ck,tm,hp⟩ d t len (parts.toList.map fun x=>(x.1,ev X ⟨ck,tm,hp⟩ x.2))) Kn else
 zaU ⟨ck,tm,hp⟩ d (wM X.P ⟨ck,tm,hp⟩ d t len (parts.toList.map fun x=>(x.1,ev X ⟨ck,tm,hp⟩ x.2))) Kn:=by rw[yD]
theorem zlu {t:TypeId}{x:Operand}:yD X ⟨d,.load t x,ty,ps,af,g⟩ ⟨ck,tm,hp⟩ Kn=zaw ⟨ck,tm,hp⟩ d (ld X.P hp t (ev X ⟨ck,tm,hp⟩ x)) Kn:=by rw[yD]
theorem zhO {t:TypeId}{x y:Operand}:yD X ⟨d,.store t x y,ty,ps,af,g⟩ ⟨ck,tm,hp⟩ Kn=finS ck tm d (sto X.P hp t (ev X ⟨ck,tm,hp⟩ x) (ev X ⟨ck,tm,hp⟩ y)) Kn:=by rw[yD];unfold finS;rfl
theorem zbO {x:Operand}:yD X ⟨d,.nilCheck x,ty,ps,af,g⟩ ⟨ck,tm,hp⟩ Kn=zaw ⟨ck,tm,hp⟩ d (y7 hp (ev X ⟨ck,tm,hp⟩ x)) Kn:=by rw[yD]
theorem op_bin {b:BinOp}{t t':TypeId}{x y:Operand}:yD X ⟨d,.binOp b t x y t',ty,ps,af,g⟩ ⟨ck,tm,hp⟩ Kn=zax ⟨ck,tm,hp⟩ d (binU X.P hp b t (ev X ⟨ck,tm,hp⟩ x) (ev X ⟨ck,tm,hp⟩ y)) Kn:=by rw[yD]
theorem op_un {u:UnOp}{t:TypeId}{x:Operand}:yD X ⟨d,.unOp u t x,ty,ps,af,g⟩ ⟨ck,tm,hp⟩ Kn=zax ⟨ck,tm,hp⟩ d (unV u (ev X ⟨ck,tm,hp⟩ x)) Kn:=by rw[yD]
theorem zcS {s t:TypeId}{x:Operand}:yD X ⟨d,.convert s t x,ty,ps,af,g⟩ ⟨ck,tm,hp⟩ Kn=(match kn X.P hp s t (ev X ⟨ck,tm,hp⟩ x) with | some r=>zaU ⟨ck,tm,hp⟩ d (some r) Kn | none=>zax ⟨ck,tm,hp⟩ d (zcx X.P s t (ev X ⟨ck,tm,hp⟩ x)) Kn):=by
 rw[yD]
 rfl
theorem zbP {f:Fn}{a c:Array Operand}:yD X ⟨d,.makeFunc f a c,ty,ps,af,g⟩ ⟨ck,tm,hp⟩ Kn=Kn ⟨ck,putTm tm d (.fn f (a.toList.map (ev X ⟨ck,tm,hp⟩)) (c.toList.map (ev X ⟨ck,tm,hp⟩))),hp⟩:=by rw[yD]
theorem zaK {t:TypeId}{a c:Operand}:yD X ⟨d,.makeSlice t a c,ty,ps,af,g⟩ ⟨ck,tm,hp⟩ Kn=zaU ⟨ck,tm,hp⟩ d (yj X.P ⟨ck,tm,hp⟩ d t (ev X ⟨ck,tm,hp⟩ a) (ev X ⟨ck,tm,hp⟩ c)) Kn:=by rw[yD]
theorem zhP {t:TypeId}{x:Operand}{lo hi:Option Operand}:yD X ⟨d,.slice t x lo hi none,ty,ps,af,g⟩ ⟨ck,tm,hp⟩ Kn=zax ⟨ck,tm,hp⟩ d (kB X.P hp t (ev X ⟨ck,tm,hp⟩ x) (lo.map (ev X ⟨ck,tm,hp⟩)) (hi.map (ev X ⟨ck,tm,hp⟩))) Kn:=by rw[yD]
theorem zaM {t:TypeId}{x:Operand}{f:Nat}:yD X ⟨d,.fieldAddr t x f,ty,ps,af,g⟩ ⟨ck,tm,hp⟩ Kn=zaw ⟨ck,tm,hp⟩ d (yI X.P hp t (ev X ⟨ck,tm,hp⟩ x) f) Kn:=by rw[yD]
theorem zaL {t:TypeId}{x i:Operand}:yD X ⟨d,.indexAddr t x i,ty,ps,af,g⟩ ⟨ck,tm,hp⟩ Kn=zax ⟨ck,tm,hp⟩ d (yH X.P hp t (ev X ⟨ck,tm,hp⟩ x) (ev X ⟨ck,tm,hp⟩ i)) Kn:=by rw[yD]
theorem zhR {t:TypeId}{x i:Operand}:yD X ⟨d,.index t x i,ty,ps,af,g⟩ ⟨ck,tm,hp⟩ Kn=zax ⟨ck,tm,hp⟩ d (zd3 X.P t (ev X ⟨ck,tm,hp⟩ x) (ev X ⟨ck,tm,hp⟩ i)) Kn:=by rw[yD]
theorem zcR {x:Operand}{i:Nat}:yD X ⟨d,.extract x i,ty,ps,af,g⟩ ⟨ck,tm,hp⟩ Kn=zaw ⟨ck,tm,hp⟩ d (qI (ev X ⟨ck,tm,hp⟩ x) i) Kn:=by rw[yD]
def rgF (u:Option TypeDesc)(v:V)(ck:Nat)(tm:List V)(hp:Heap)(d:Option Tmp)(Kn:St→Prop):Prop:=match u,v with
 | some .string,.str str=>jf hp∧∀ L,hp (0,L)=none→Kn ⟨ck,putTm tm d (.rawp L),updH hp (0,L) (.raw (.stringIter ⟨str.toArray⟩ 0))⟩
 | _,_=>False
theorem rgF_str {str:List UInt8}:rgF (some .string) (.str str) ck tm hp d Kn=(jf hp∧∀ L,hp (0,L)=none→Kn ⟨ck,putTm tm d (.rawp L),updH hp (0,L) (.raw (.stringIter ⟨str.toArray⟩ 0))⟩):=by rw[rgF]
@[congr] theorem rgF_congr {u u':Option TypeDesc}{v v':V}(h:u=u')(h2:v=v'):rgF u v ck tm hp d Kn=rgF u' v' ck tm hp d Kn:=by subst h;subst h2;rfl
theorem zf2 {t:TypeId}{m k x:Operand}:yD X ⟨d,.insert t m k x,ty,ps,af,g⟩ ⟨ck,tm,hp⟩ Kn=finS ck tm d (zgI X.P hp t (ev X ⟨ck,tm,hp⟩ m) (ev X ⟨ck,tm,hp⟩ k) (ev X ⟨ck,tm,hp⟩ x)) Kn:=by rw[yD];unfold finS;rfl
theorem zcQ {t:TypeId}:yD X ⟨d,.makeMap t none,ty,ps,af,g⟩ ⟨ck,tm,hp⟩ Kn=(jf hp∧∀ L,hp (0,L)=none→Kn ⟨ck,putTm tm d (.mapp L),updH hp (0,L) (.raw (.map #[] 0))⟩):=by rw[yD]
theorem zhQ {t:TypeId}{x:Operand}:yD X ⟨d,.range t x,ty,ps,af,g⟩ ⟨ck,tm,hp⟩ Kn=rgF (X.P.underlying t) (ev X ⟨ck,tm,hp⟩ x) ck tm hp d Kn:=by
 rw[yD];unfold rgF;rfl
def nxG (o:Option AObj)(L:Nat)(ck:Nat)(tm:List V)(hp:Heap)(d:Option Tmp)(Kn:St→Prop):Prop:=match o with
 | some (.raw (.stringIter b pos))=>(pos < b.size→Kn ⟨ck,putTm tm d (.tup [.bool true,.int .i64 pos,.int .i32 (Utf8.decode b pos).1]),updH hp (0,L) (.raw (.stringIter b (pos+(Utf8.decode b pos).2)))⟩) ∧
         (b.size≤pos→Kn ⟨ck,putTm tm d (.tup [.bool false]),hp⟩)
 | _=>False
theorem nxG_raw {b:ByteArray}{pos L:Nat}:nxG (some (.raw (.stringIter b pos))) L ck tm hp d Kn=((pos < b.size→Kn ⟨ck,putTm tm d (.tup [.bool true,.int .i64 pos,.int .i32 (Utf8.decode b pos).1]),updH hp (0,L) (.raw (.stringIter b (pos+(Utf8.decode b pos).2)))⟩) ∧
 (b.size≤pos→Kn ⟨ck,putTm tm d (.tup [.bool false]),hp⟩)):=by rw[nxG]
@[congr] theorem nxG_congr {v v':Option AObj}{L:Nat}(h:v=v'):nxG v L ck tm hp d Kn=nxG v' L ck tm hp d Kn:=by subst h;rfl
def nxF (v:V)(ck:Nat)(tm:List V)(hp:Heap)(d:Option Tmp)(Kn:St→Prop):Prop:=match v with
 | .rawp L=>nxG (hp (0,L)) L ck tm hp d Kn
 | _=>False
theorem nxF_raw {L:Nat}:nxF (.rawp L) ck tm hp d Kn=nxG (hp (0,L)) L ck tm hp d Kn:=by rw[nxF]
@[congr] theorem nxF_congr {v v':V}(h:v=v'):nxF v ck tm hp d Kn=nxF v' ck tm hp d Kn:=by subst h;rfl
theorem zls {x:Operand}:yD X ⟨d,.next x true,ty,ps,af,g⟩ ⟨ck,tm,hp⟩ Kn=nxF (ev X ⟨ck,tm,hp⟩ x) ck tm hp d Kn:=by
 rw[yD];unfold nxF nxG;rfl
theorem zlv {x:Operand}{args:Array Operand}{ts:Array TypeId}:yD X ⟨d,.call ⟨.value x,args,ts⟩,ty,ps,af,g⟩ ⟨ck,tm,hp⟩ Kn=qU X ⟨ck,tm,hp⟩ d (ev X ⟨ck,tm,hp⟩ x) (args.toList.map (ev X ⟨ck,tm,hp⟩)) Kn:=by rw[yD]
theorem zcT {b:Builtin}{args:Array Operand}{ts:Array TypeId}:yD X ⟨d,.call ⟨.builtin b,args,ts⟩,ty,ps,af,g⟩ ⟨ck,tm,hp⟩ Kn=wV X ⟨ck,tm,hp⟩ d b args.toList ts.toList Kn:=by rw[yD]
theorem bi_len {x:Operand}{t:TypeId}:wV X ⟨ck,tm,hp⟩ d .len [x] [t] Kn=zax ⟨ck,tm,hp⟩ d (zdY X.P hp t (ev X ⟨ck,tm,hp⟩ x)) Kn:=by rw[wV]
def appK (P:Program)(own ice:Bool)(s:St)(d:Option Tmp)(t t2:TypeId)(x y:V)(Kn:St→Prop):Prop :=
 if zfy x=true then finD s d (if zml y=true then znt P s d t t2 x y else appD P s d t t2 x y) Kn
 else zaU s d (if own=true then appendN P s d t t2 x y else if ice=true then appendZ P s d t t2 x y else vC P s d t t2 x y) Kn
@[congr] theorem appK_congr {P:Program}{own own' ice ice':Bool}{s:St}{d:Option Tmp}{t t2:TypeId}{x x' y y':V}{Kn:St→Prop}(h1:own=own')(h2:ice=ice')(h3:x=x')(h4:y=y'):appK P own ice s d t t2 x y Kn=appK P own' ice' s d t t2 x' y' Kn:=by subst h1;subst h2;subst h3;subst h4;rfl
theorem appK_msl {P:Program}{own ice:Bool}{s:St}{d:Option Tmp}{t t2:TypeId}{l:Loc}{o n:Nat}{y:V}{Kn:St→Prop}:appK P own ice s d t t2 (.msl l o n) y Kn=zaU s d (if own=true then appendN P s d t t2 (.msl l o n) y else if ice=true then appendZ P s d t t2 (.msl l o n) y else vC P s d t t2 (.msl l o n) y) Kn:=by unfold appK;rw[if_neg (by simp[zfy])]
@[congr] theorem finD_congr {s:St}{d:Option Tmp}{r r':Option (Prop×Prop×V×Heap×Prop×Nat×V×(Nat→Heap))}{Kn:St→Prop}(h:r=r'):finD s d r Kn=finD s d r' Kn:=by subst h;rfl
theorem znn {x y:Operand}{t t2:TypeId}:wV X ⟨ck,tm,hp⟩ d .append [x,y] [t,t2] Kn=appK X.P (isOwn X d) (zcv X d) ⟨ck,tm,hp⟩ d t t2 (ev X ⟨ck,tm,hp⟩ x) (ev X ⟨ck,tm,hp⟩ y) Kn:=by rw[wV];unfold appK;rfl
theorem bi_copy {x y:Operand}{t t2:TypeId}:wV X ⟨ck,tm,hp⟩ d .copy [x,y] [t,t2] Kn=zaU ⟨ck,tm,hp⟩ d (if zfy (ev X ⟨ck,tm,hp⟩ x)=true then copyB X.P ⟨ck,tm,hp⟩ t (ev X ⟨ck,tm,hp⟩ x) (ev X ⟨ck,tm,hp⟩ y) else zk5 X.P ⟨ck,tm,hp⟩ t (ev X ⟨ck,tm,hp⟩ x) (ev X ⟨ck,tm,hp⟩ y)) Kn:=by rw[wV]
theorem bi_max {l:List Operand}{ts:List TypeId}:wV X ⟨ck,tm,hp⟩ d .max l ts Kn=zaw ⟨ck,tm,hp⟩ d (extV true (l.map (ev X ⟨ck,tm,hp⟩))) Kn:=by rw[wV]
theorem bi_min {l:List Operand}{ts:List TypeId}:wV X ⟨ck,tm,hp⟩ d .min l ts Kn=zaw ⟨ck,tm,hp⟩ d (extV false (l.map (ev X ⟨ck,tm,hp⟩))) Kn:=by rw[wV]
theorem call_fn {f:FuncId}{a c l:List V}:qU X ⟨ck,tm,hp⟩ d (.fn (.func f) a c) l Kn=finC X ck tm hp d f (a++l++c) (selC X d f) Kn:=by rw[qU];unfold finC;rfl
theorem zk8 {L:Nat}{l:List V}:qU X ⟨ck,tm,hp⟩ d (.fn (.yield L) [] []) l Kn=zdh X ⟨ck,tm,hp⟩ d L l Kn:=by rw[qU]
end
@[congr] theorem exCall_congr {X:Cx}{s:St}{d:Option Tmp}{v v':V}{l l':List V}{Kn:St→Prop}(h:v=v')(h2:l=l'):qU X s d v l Kn=qU X s d v' l' Kn:=by subst h;subst h2;rfl
@[congr] theorem zmS {X:Cx}{s:St}{d:Option Tmp}{b:Builtin}{l l':List Operand}{ts ts':List TypeId}{Kn:St→Prop}(h:l=l')(h2:ts=ts'):wV X s d b l ts Kn=wV X s d b l' ts' Kn:=by subst h;subst h2;rfl
theorem zgi {n:St→Prop}{Q:Exit→St→Prop}{s:St}:zer n Q .normal s=n s:=by rw[zer]
theorem zkC {n:St→Prop}{Q:Exit→St→Prop}{s:St}{i:Nat}:zer n Q (.exit i) s=Q (.exit i) s:=by unfold zer;exact(rfl:Q (.exit i) s=Q (.exit i) s)
theorem seqQ_ret {n:St→Prop}{Q:Exit→St→Prop}{s:St}:zer n Q .ret s=Q .ret s:=by unfold zer;exact(rfl:Q .ret s=Q .ret s)
theorem zen {i:Nat}{Q:Exit→St→Prop}{s:St}:jB i Q .normal s=Q .normal s:=by unfold jB;exact(rfl:Q .normal s=Q .normal s)
theorem zkb {i:Nat}{Q:Exit→St→Prop}{s:St}:jB i Q .ret s=Q .ret s:=by unfold jB;exact(rfl:Q .ret s=Q .ret s)
theorem zha {i j:Nat}{Q:Exit→St→Prop}{s:St}:jB i Q (.exit j) s=if j=i then Q .normal s else Q (.exit j) s:=by rw[jB]
theorem zgD {Q:Exit→St→Prop}{s:St}{i:Nat}:zaR Q (.exit i) s=Q (.exit i) s:=by unfold zaR;exact(rfl:Q (.exit i) s=Q (.exit i) s)
theorem zjA {Q:Exit→St→Prop}{s:St}:zaR Q .ret s=Q .ret s:=by unfold zaR;exact(rfl:Q .ret s=Q .ret s)
theorem retQ_ret {X:Cx}{rs:List ResultVar}{rl:Loc}{out:Out}{s:St}:retQ X rs rl out .ret s=znz X s rs rl out:=by rw[retQ]
attribute [go_sem] ziH zmQ ziI zmO exC_seq exC_cond zmR zmN zjZ exC_draw exR_nil exR_last exT_nil exT_cons zg6 zet exC_loop zmP zmL zjY exOps_if exD_nil exD_cons exD_if cB_bool gS_some gD_some gV_bool gV_out zby zmB zmD zmF zmI zmC zmJ zmG zmH rgF_str nxF_raw nxG_raw bi_len znn appK_msl bi_copy bi_max bi_min call_fn zk8 zgi zkC seqQ_ret zen zkb zha zgD zjA retQ_ret znz
@[congr] theorem exD_congr {X:Cx}{ops:Array Oper}{l l':List (Oper×List Nat)}{i i':Nat}{s s':St}{log log':List kv}{Kn:St→Prop}(h1:l=l')(h2:i=i')(h3:s=s')(h4:log=log') :
 exD X ops l i s log Kn=exD X ops l' i' s' log' Kn:=by subst h1;subst h2;subst h3;subst h4;rfl
@[congr] theorem exOps_congr {X:Cx}{ops:Array Oper}{l l':List Oper}{s s':St}{Kn:St→Prop}(h1:l=l')(h3:s=s'):vB X ops l s Kn=vB X ops l' s' Kn:=by subst h1;subst h3;rfl
@[congr] theorem exOp_congr {X:Cx}{o:Oper}{s s':St}{Kn:St→Prop}(h3:s=s'):yD X o s Kn=yD X o s' Kn:=by subst h3;rfl
@[congr] theorem exC_congr {X:Cx}{D:zL}{c:Code}{s s':St}{Q:Exit→St→Prop}(h3:s=s'):exC X D c s Q=exC X D c s' Q:=by subst h3;rfl
@[congr] theorem RestT_congr {X:Cx}{D:zL}{c:Code}{s s':St}{Q:Exit→St→Prop}(h3:s=s'):zB X D c s Q=zB X D c s' Q:=by subst h3;rfl
theorem zfo {i:Nat}{log:List kv}:j9 i (.locs []) none log=log:=rfl
theorem logAdd_w {i:Nat}{rd:Rd}{l:Loc}{log:List kv}:j9 i rd (some l) log=(i,rd,some l)::log:=by
 cases rd with
 | locs ls=>cases ls <;> rfl
 | cond p=>rfl
theorem logAdd_c {i:Nat}{p:Prop}{wl:Option Loc}{log:List kv}:j9 i (.cond p) wl log=(i,.cond p,wl)::log:=rfl
theorem logAdd_l {i:Nat}{l:Loc}{ls:List Loc}{wl:Option Loc}{log:List kv}:j9 i (.locs (l::ls)) wl log=(i,.locs (l::ls),wl)::log:=rfl
theorem zly {un:List Nat}{log:List kv}:okL un (.locs []) none log=True:=rfl
theorem okL_w {un:List Nat}{rd:Rd}{l:Loc}{log:List kv}:okL un rd (some l) log=zct un rd (some l) log:=by
 cases rd with
 | locs ls=>cases ls <;> rfl
 | cond p=>rfl
theorem okL_c {un:List Nat}{p:Prop}{wl:Option Loc}{log:List kv}:okL un (.cond p) wl log=zct un (.cond p) wl log:=rfl
theorem okL_l {un:List Nat}{l:Loc}{ls:List Loc}{wl:Option Loc}{log:List kv}:okL un (.locs (l::ls)) wl log=zct un (.locs (l::ls)) wl log:=rfl
attribute [go_sem] zfo logAdd_w logAdd_c logAdd_l zly okL_w okL_c okL_l
theorem frz_int {n:Nat}{hp:Heap}{k:IntKind}{i:Int}:frz (n+1) hp (.int k i)=.int k i:=v7 (.int _ _)
theorem frz_bool {n:Nat}{hp:Heap}{b:Bool}:frz (n+1) hp (.bool b)=.bool b:=v7 (.bool _)
theorem frz_str {n:Nat}{hp:Heap}{s:List UInt8}:frz (n+1) hp (.str s)=.str s:=v7 (.str _)
theorem frz_nils {n:Nat}{hp:Heap}:frz (n+1) hp .nils=.nils:=v7 .nils
theorem pu_int {k:IntKind}{i:Int}:Pu (.int k i)↔True:=iff_true_intro (.int _ _)
theorem pu_bool {b:Bool}:Pu (.bool b)↔True:=iff_true_intro (.bool _)
theorem pu_str {s:List UInt8}:Pu (.str s)↔True:=iff_true_intro (.str _)
theorem pu_nils:Pu .nils↔True:=iff_true_intro .nils
theorem pu_msl {l:Loc}{o n:Nat}:Pu (.msl l o n)↔False:=⟨fun h=>(by cases h),False.elim⟩
theorem pu_ptr {l:Loc}{o:Nat}:Pu (.ptr l o)↔False:=⟨fun h=>(by cases h),False.elim⟩
attribute [go_sem] frz_int frz_bool frz_str frz_nils pu_int pu_bool pu_str pu_nils pu_msl pu_ptr
attribute [go_sem] List.length_cons List.length_nil List.replicate List.cons_append List.nil_append List.append_nil List.set List.getD_eq_getElem?_getD List.getElem?_cons_succ List.getElem?_cons_zero Option.getD_some Option.getD_none List.getElem?_toArray List.size_toArray Nat.reduceAdd Nat.reduceSub Nat.reduceMul Nat.reduceLeDiff Nat.reduceEqDiff List.zip_cons_cons List.zip_nil_left List.zip_nil_right List.map_cons List.map_nil Option.map_some Option.map_none Option.bind_some Option.bind_none List.drop_succ_cons List.drop_zero List.drop_nil List.take_succ_cons List.take_zero List.take_nil List.flatMap_cons List.flatMap_nil List.head?_cons List.head?_nil ite_true ite_false reduceIte and_true true_and and_self
theorem frz_msl {n:Nat}{hp:Heap}{l:Loc}{off len:Nat}:frz (n+1) hp (.msl l off len)=match hp l with
 | some (.arr m sz get)=>if off+len=m then .sl len sz (fun i=>yA (frz n hp) (get (off+i))) else .top
 | _=>.top:=by
 have:¬ Pu (.msl l off len):=pu_msl.1
 rw[frz,if_neg this]
 rfl
theorem frz_psl {n:Nat}{hp:Heap}{l:Loc}{n' off len:Nat}:frz (n+1) hp (.psl l n' off len)=match hp l with
 | some (.arr m sz get)=>if n'=m then .sl len sz (fun i=>yA (frz n hp) (get (off+i))) else .top
 | _=>.top:=by
 have:¬ Pu (.psl l n' off len):=fun h=>by cases h
 rw[frz,if_neg this]
 rfl
theorem ziv {n:Nat}{hp:Heap}{m sz:Nat}{get:Nat→List V}:frz (n+1) hp (.sl m sz get)=.sl m sz get:=by unfold frz;split <;> rfl
theorem qt {n:Nat}{hp:Heap}:∀ {cs:List V},(∀ v∈cs,Pu v)→cs.map (frz (n+1) hp)=cs
 | [],_=>rfl
 | v::cs,h=>by rw[List.map_cons,v7 (h v (by simp)),qt fun u hu=>h u (by simp[hu])]
theorem jh {n:Nat}{hp:Heap}{l:Loc}{off:Nat}:frz (n+1) hp (.ptr l off)=match hp l with
 | some (.cells cs)=>.cptr ((cs.drop off).map (frz n hp))
 | _=>.top:=by
 have:¬ Pu (.ptr l off):=pu_ptr.1
 rw[frz,if_neg this]
 rfl
theorem zjR {f:V→V}{cells:List V}{sz i:Nat}(h:∀ v∈cells,Pu v):yA f (wa cells sz i)=wa cells sz i :=
 ww fun v hv=>h v (by
  rw[wa] at hv
  exact List.mem_of_mem_drop (List.mem_of_mem_take hv))
attribute [go_sem] ww zjR
theorem zdl {hp:Heap}{l l':Loc}{o:AObj}:updH hp l o l'=if l'=l then some o else hp l':=rfl
attribute [go_sem] Bool.false_eq_true ne_eq not_false_eq_true not_true_eq_false and_false false_and List.mem_cons Nat.reducePow or_false false_or List.length_set NoSlO frz_psl frz_msl zdl Prod.mk.injEq vC
theorem noSl_int {k:IntKind}{i:Int}:NoSl (.int k i)↔True:=iff_true_intro (.int _ _)
theorem zlU {b:Bool}:NoSl (.bool b)↔True:=iff_true_intro (.bool _)
theorem zkX (cells:List V)(sz i:Nat):wa cells sz i=(cells.drop (i * sz)).take sz:=rfl
attribute [go_sem] noSl_int zlU
theorem wZ {l:List V}{p:V→Prop}:(∀ (j:Nat) (v:V),l[j]?=some v→p v)↔∀ v∈l,p v :=
 ⟨fun h v hv=>by obtain⟨j,hj⟩:=List.mem_iff_getElem?.1 hv;exact h j v hj,fun h j v hv=>h v (yi hv)⟩
theorem zhN {cs:List V}:Pu (.agg cs)↔∀ v∈cs,Pu v:=⟨fun h=>by cases h with | agg _ h=>exact wZ.1 h,fun h=>.agg _ (wZ.2 h)⟩
theorem pu_tup {cs:List V}:Pu (.tup cs)↔∀ v∈cs,Pu v:=⟨fun h=>by cases h with | tup _ h=>exact wZ.1 h,fun h=>.tup _ (wZ.2 h)⟩
theorem pu_cptr {cs:List V}:Pu (.cptr cs)↔∀ v∈cs,Pu v:=⟨fun h=>by cases h with | cptr _ h=>exact wZ.1 h,fun h=>.cptr _ (wZ.2 h)⟩
theorem pu_fn {f:Fn}{a b:List V}:Pu (.fn f a b)↔(∀ v∈a,Pu v)∧∀ v∈b,Pu v :=
 ⟨fun h=>by cases h with | fn _ _ _ h1 h2=>exact⟨wZ.1 h1,wZ.1 h2⟩,fun h=>.fn _ _ _ (wZ.2 h.1) (wZ.2 h.2)⟩
theorem vW {n sz:Nat}{get:Nat→List V}:Pu (.sl n sz get)↔∀ i,i < n→∀ v∈get i,Pu v :=
 ⟨fun h=>by cases h with | sl _ _ _ h=>exact fun i hi=>wZ.1 fun j v hv=>h i j v hi hv,fun h=>.sl _ _ _ fun i j v hi hv=>h i hi v (yi hv)⟩
theorem frz_agg {n:Nat}{hp:Heap}{cs:List V}:frz (n+2) hp (.agg cs)=.agg (cs.map (frz (n+1) hp)):=by
 by_cases h:Pu (.agg cs)
 ·rw[v7 h,qt (zhN.1 h)]
 ·rw[frz,if_neg h]
theorem zmu {n:Nat}{hp:Heap}{cs:List V}:frz (n+2) hp (.tup cs)=.tup (cs.map (frz (n+1) hp)):=by
 by_cases h:Pu (.tup cs)
 ·rw[v7 h,qt (pu_tup.1 h)]
 ·rw[frz,if_neg h]
theorem frz_cptr {n:Nat}{hp:Heap}{cs:List V}:frz (n+1) hp (.cptr cs)=.cptr cs:=by unfold frz;split <;> rfl
theorem frz_fn {n:Nat}{hp:Heap}{f:Fn}{a b:List V}:frz (n+2) hp (.fn f a b)=.fn f (a.map (frz (n+1) hp)) (b.map (frz (n+1) hp)):=by
 by_cases h:Pu (.fn f a b)
 ·rw[v7 h,qt (pu_fn.1 h).1,qt (pu_fn.1 h).2]
 ·rw[frz,if_neg h]
attribute [go_sem] zhN pu_tup pu_fn pu_cptr frz_agg zmu frz_fn frz_cptr ziv
theorem g_tt {P:Prop}:(true=true→P)↔P:=⟨fun h=>h rfl,fun h _=>h⟩
theorem g_ff {P:Prop}:(false=false→P)↔P:=⟨fun h=>h rfl,fun h _=>h⟩
theorem g_tf {P:Prop}:(true=false→P)↔True:=iff_true_intro fun h=>by cases h
theorem g_ft {P:Prop}:(false=true→P)↔True:=iff_true_intro fun h=>by cases h
theorem g_tnt {P:Prop}:(true=!true→P)↔True:=iff_true_intro fun h=>by cases h
theorem g_tnf {P:Prop}:(true=!false→P)↔P:=⟨fun h=>h rfl,fun h _=>h⟩
theorem g_fnt {P:Prop}:(false=!true→P)↔P:=⟨fun h=>h rfl,fun h _=>h⟩
theorem g_fnf {P:Prop}:(false=!false→P)↔True:=iff_true_intro fun h=>by cases h
attribute [go_sem] Option.isSome_some Option.isSome_none Int.toNat_natCast zho List.head?_cons Bool.not_false Bool.not_true true_implies implies_true List.forall_mem_cons List.not_mem_nil false_implies true_or or_true decide_eq_true_eq decide_eq_false_iff_not
theorem wy:type_of% (And.intro @zlt (And.intro @zf3 (And.intro @zlr (And.intro @zhT (And.intro @op_box (And.intro @zhS (And.intro @kP (And.intro @zlu (And.intro @zhO (And.intro @zbO (And.intro @op_bin (And.intro @op_un (And.intro @zcS (And.intro @zbP (And.intro @zaK (And.intro @zhP (And.intro @zaM (And.intro @zaL (And.intro @zhR (And.intro @zcR (And.intro @zf2 (And.intro @zcQ (And.intro @zhQ (And.intro @zls (And.intro @zlv (And.intro @zcT (And.intro @g_tt (And.intro @g_ff (And.intro @g_tf (And.intro @g_ft (And.intro @g_tnt (And.intro @g_tnf (And.intro @g_fnt (@g_fnf)))))))))))))))))))))))))))))))))):=And.intro @zlt (And.intro @zf3 (And.intro @zlr (And.intro @zhT (And.intro @op_box (And.intro @zhS (And.intro @kP (And.intro @zlu (And.intro @zhO (And.intro @zbO (And.intro @op_bin (And.intro @op_un (And.intro @zcS (And.intro @zbP (And.intro @zaK (And.intro @zhP (And.intro @zaM (And.intro @zaL (And.intro @zhR (And.intro @zcR (And.intro @zf2 (And.intro @zcQ (And.intro @zhQ (And.intro @zls (And.intro @zlv (And.intro @zcT (And.intro @g_tt (And.intro @g_ff (And.intro @g_tf (And.intro @g_ft (And.intro @g_tnt (And.intro @g_tnf (And.intro @g_fnt (@g_fnf)))))))))))))))))))))))))))))))))
end Go.Fly
end
section
namespace Go.Fly
open Go
def inQ (X:Cx)(rs:List ResultVar)(Kn:V→St→Prop):Exit→St→Prop
 | .normal,s | .ret,s=>∃ v,yR X s rs=some v∧Kn v s
 | _,_=>False
theorem zdb {P:Program}{G:Nat→V}{f:FuncId}{fn:Func}{c:Code}(hf:P.funcs[f]?=some fn)(hb:fn.body=some c){Γ:FuncId→Option Contract}(hΓ:∀ g C,Γ g=some C→Holds P G g C)
 (hG:∀ g,Pu (G g)∨G g=.top) {w0:World} {M0:Nat→Prop} {B0:Loc→Option (Nat×Nat)} {hp0:Heap} {ck0:Nat} (hk0:HeapOk (mkK w0 M0 B0 hp0 ck0)) (hG0:∀ g,R (mkK w0 M0 B0 hp0 ck0) (G g) (.pointer (some ⟨g,0,none⟩)))
 {args:List V} {vs:Array Value} (hargs:zae (mkK w0 M0 B0 hp0 ck0) args vs) {Kn:V→St→Prop}
 (h:T ⟨P,Γ,G,none,mkK w0 M0 B0 hp0 ck0⟩ c ⟨ck0+1,args++List.replicate (fn.ntmps - args.length) .top,hp0⟩ (inQ ⟨P,Γ,G,none,mkK w0 M0 B0 hp0 ck0⟩ fn.results.toList Kn)) :
 Calls P f vs w0 fun e w'=>∃ rv v s' M' B',Kn v s'∧e=.returned rv∧Step (mkK w0 M0 B0 hp0 ck0) (mkK w' M' B' s'.hp s'.ck)∧HeapOk (mkK w' M' B' s'.hp s'.ck)∧R (mkK w' M' B' s'.hp s'.ck) v rv:=by
 have hX:(⟨P,Γ,G,none,mkK w0 M0 B0 hp0 ck0⟩:Cx).Ok:=⟨hΓ,hG,hG0,fun b hb=>(hk0.own b hb).1⟩
 have hrel0:Rel (mkK w0 M0 B0 hp0 ck0) ⟨ck0,args++List.replicate (fn.ntmps - args.length) .top,hp0⟩ { tmps:=vs++Array.replicate (fn.ntmps - vs.size) undef,defers:=[] } w0:=by
  refine⟨M0,B0,Step.refl _,hk0,⟨by simp[hargs.1],fun t v hv=>?_⟩,[],rfl,List.nodup_nil,by simp⟩
  by_cases ht:t < args.length
  ·rw[List.getElem?_append_left ht] at hv
   have:=hargs.2 t v hv
   simp only[Array.getD_eq_getD_getElem?] at this ⊢
   rwa [Array.getElem?_append_left (by rw[hargs.1];exact ht)]
  ·rw[List.getElem?_append_right (by omega),List.getElem?_replicate] at hv
   split at hv
   ·cases hv;exact .top _
   ·cases hv
 have hwp:=h _ w0 hrel0.tick
 refine qN.1 (callsIn_of_wp_marks (F:=WF none) (n:=0) hf hb trivial (wpIn_mono hwp fun e a w ⟨s,hq,hr⟩=>?_))
 have main:(∃ v,yR ⟨P,Γ,G,none,mkK w0 M0 B0 hp0 ck0⟩ s fn.results.toList=some v∧Kn v s)→LeavesInM (WF none) 0 P fn a.tmps (fun e w'=>∃ rv v s' M' B',Kn v s'∧e=.returned rv∧Step (mkK w0 M0 B0 hp0 ck0) (mkK w' M' B' s'.hp s'.ck)∧HeapOk (mkK w' M' B' s'.hp s'.ck)∧R (mkK w' M' B' s'.hp s'.ck) v rv) a.defers .returning w:=by
  rintro⟨v,hv,hKn⟩
  obtain⟨M,B,hst,hho,htm,rs,hds,hnd,hmk⟩:=hr
  rw[hds]
  refine zbt rs w hnd (fun r hr=>(hmk r hr).1) fun w' e1 e2 e3 e4 e5=>?_
  have hsame:∀ b,b < w.heap.size→(¬ M b∨(mkK w M B s.hp s.ck).owned b)→b < w'.heap.size∧w'.heap[b]?=w.heap[b]?:=by
   intro b hb hc
   refine⟨by omega,e5 b fun hr=>?_⟩
   obtain⟨_,p1,p2,_⟩:=hmk b hr
   rcases hc with hc | hc
   ·exact hc p1
   ·exact p2 hc
  let k2:K:=mkK w' M B s.hp s.ck
  have hR2:∀ {v:V} {cv:Value},R (mkK w M B s.hp s.ck) v cv→R k2 v cv:=fun h=>R.same (k:=mkK w M B s.hp s.ck) (k':=k2) rfl rfl (fun _ h=>h) (fun b hb hM=>⟨(hsame b hb (.inl hM)).1,(hsame b hb (.inl hM)).2,hM⟩) h
  have htm2:zag k2 s.tm a.tmps:=⟨htm.1,fun t v hv=>hR2 (htm.2 t v hv)⟩
  have hho2:HeapOk k2:=by
   refine⟨fun b hb=>by have:=hho.lt b hb;show b < w'.heap.size;rw[e4];exact this,fun b hb=>⟨(hho.own b hb).1,by have:=(hho.own b hb).2;show b < w'.heap.size;rw[e4];exact this⟩,hho.nm,hho.inj,fun l o h=>?_⟩
   have ho:=hho.obj l o h
   cases o with
   | dead=>exact ho
   | raw r=>exact⟨ho.1,((hsame _ (wt ho.2) (.inr ⟨l,_,0,h,ho.1⟩)).2).trans ho.2⟩
   | cells cs =>
     obtain⟨b,c,xs,ty,fz,h1,h2,h3,h4,h5⟩:=ho
     exact⟨b,c,xs,ty,fz,h1,((hsame b (wt h2) (.inr ⟨l,_,c,h,h1⟩)).2).trans h2,h3,h4,fun j v hv=>hR2 (h5 j v hv)⟩
   | buf c sz get =>
     obtain⟨g1,b,xs,ty,fz,h1,h2,h3,h4,h5⟩:=ho
     exact⟨g1,b,xs,ty,fz,h1,((hsame b (wt h2) (.inr ⟨l,_,c,h,h1⟩)).2).trans h2,h3,h4,fun i j v hi hv=>hR2 (h5 i j v hi hv)⟩
   | arr n sz get =>
     obtain⟨h1,h2,h3⟩:=ho
     refine⟨h1,h2,?_⟩
     cases hq:(mkK w M B s.hp s.ck).B l with
     | none =>
       have:k2.B l=none:=hq
       rw[this]
       simpa [hq] using h3
     | some bc =>
       obtain⟨b,c⟩:=bc
       have:k2.B l=some (b,c):=hq
       rw[this]
       simp only[hq] at h3
       obtain⟨g1,xs,ty,fz,g2,g3,g4,g5⟩:=h3
       exact⟨g1,xs,ty,fz,((hsame b (wt g2) (.inr ⟨l,_,c,h,hq⟩)).2).trans g2,g3,g4,fun i j v hi hv=>hR2 (g5 i j v hi hv)⟩
  have hst2:Step (mkK w0 M0 B0 hp0 ck0) k2:=by
   refine⟨e1.trans hst.os,e2.trans hst.tape,e3.trans hst.output,by show _≤w'.heap.size;rw[e4];exact hst.size,fun b hb ho=>?_,fun b hb=>hst.own b hb,hst.M,hst.M2,hst.nm,hst.names⟩
   have h1:w.heap[b]?=w0.heap[b]?:=hst.keep b hb ho
   show w'.heap[b]?=w0.heap[b]?
   rw[e5 b (fun hr=>by have h8:=(hmk b hr).2.2.2;have h9:b < w0.heap.size:=hb;have h10:w0.heap.size≤b:=h8;omega),h1]
  obtain⟨rv,hrun,hRv⟩:=zcJ (X:=⟨P,Γ,G,none,mkK w0 M0 B0 hp0 ck0⟩) hho2 rfl htm2 hv
  exact⟨rv,hrun,rv,v,s,M,B,hKn,rfl,hst2,hho2,hRv⟩
 cases e with
 | normal=>exact main hq
 | ret=>exact main hq
 | _=>exact hq.elim
def zeE (tm:List V)(ps:List Tmp)(us:List V):List V:=(ps.zip us).foldl (fun t x=>t.set x.1 x.2) tm
theorem zhv {k:K}:∀ (ps:List Tmp) (us:List V) (cus:List Value) {tm:List V} {tmps:Array Value},zag k tm tmps→us.length=cus.length→(∀ (j:Nat) (v:V),us[j]?=some v→R k v (cus.getD j undef)) →
 zag k (zeE tm ps us) ((ps.zip cus).foldl (fun t x=>t.setIfInBounds x.1 x.2) tmps)
 | [],us,cus,tm,tmps,h,_,_=>by simpa [zeE] using h
 | p::ps,[],[],tm,tmps,h,_,_=>by simpa [zeE] using h
 | p::ps,u::us,[],_,_,_,hl,_=>by simp at hl
 | p::ps,[],c::cus,_,_,_,hl,_=>by simp at hl
 | p::ps,u::us,c::cus,tm,tmps,h,hl,hr=>by
   have h1:zag k (tm.set p u) (tmps.setIfInBounds p c):=by
    refine⟨by simpa using h.1,fun t v hv=>?_⟩
    rw[List.getElem?_set] at hv
    by_cases e:p=t
    ·subst e
     split at hv
     ·rename_i hlt
      split at hv
      ·cases hv
       have h2:=hr 0 u rfl
       have hlt':p < tmps.size:=by rw[← h.1];assumption
       simpa [Array.getD_eq_getD_getElem?,Array.getElem?_setIfInBounds,hlt'] using h2
      ·cases hv
     ·exact absurd rfl ‹_›
    ·simp only[e,if_false] at hv
     have:=h.2 t v hv
     simpa [Array.getD_eq_getD_getElem?,Array.getElem?_setIfInBounds,e] using this
   have:=zhv ps us cus h1 (by simpa using hl) fun j v hv=>by
    have:=hr (j+1) v (by simpa using hv)
    simpa [List.getD_eq_getElem?_getD] using this
   simpa [zeE] using this
def zmj:Exit→Option (Option Code)
 | .normal=>some none
 | .ret=>some (some .ret)
 | .exit id=>some (some (.exit id))
 | _=>none
def zhE (s:St)(dst:Option Tmp)(L:Nat)(r:Loop)(Kn:St→Prop):Exit→St→Prop:=fun e s2 =>
 s2.hp (0,L)=some (.raw (.loop { r with state:=.busy }))∧match zmj e with
  | some j=>Kn ⟨s2.ck,putTm s.tm dst (.bool j.isNone),updH s2.hp (0,L) (.raw (.loop { r with state:=if j.isNone then .ready else .done,pending:=j }))⟩
  | none=>False
theorem zjO (L:Nat):(WF none).inRound L=WF (some L):=rfl
theorem yield_ok {X:Cx}(hX:X.Ok)(hXr:X.r=none){o:Oper}{c:Call}{x:Operand}{s:St}{Kn:St→Prop}(ho:o.op=.call c)(hc:c.callee=.value x){L:Nat}(hx:ev X s x=.fn (.yield L) [] [])
 {r:Loop} (hl:s.hp (0,L)=some (.raw (.loop r))) (hrs:r.state=.ready) (hps:c.args.size=r.params.size) {tmc:List V} (hsnap:zag X.k0 tmc r.tmps)
 (h:∀ kb,(⟨X.P,X.Γ,X.G,some L,kb⟩:Cx).Ok→T ⟨X.P,X.Γ,X.G,some L,kb⟩ r.assign ⟨s.ck,zeE tmc r.params.toList (c.args.toList.map (ev X s)),s.hp⟩ (fun e s1=>e=.normal∧s1.hp (0,L)=some (.raw (.loop r)) ∧
  T ⟨X.P,X.Γ,X.G,some L,kb⟩ r.body ⟨s1.ck,s1.tm,updH s1.hp (0,L) (.raw (.loop { r with state:=.busy }))⟩ (zhE s o.dst L r Kn))):y5 X o s Kn:=by
 intro a w ⟨M,B,hst,hho,htm,hmk⟩ next Q hn
 have hev:∀ y,R (mkK w M B s.hp s.ck) (ev X s y) (a.eval y):=fun y=>zcw hX (ds:=a.defers) hst htm y
 have hfx:=hev x
 rw[hx] at hfx
 obtain⟨fs,cs,hfv,hfs,hcs,hfr,hcr⟩:=hfx.fn_inv
 have hfs0:fs=#[]:=Array.eq_empty_of_size_eq_zero (by simpa using hfs)
 have hcs0:cs=#[]:=Array.eq_empty_of_size_eq_zero (by simpa using hcs)
 subst hfs0
 subst hcs0
 have hheap:=(vK hho hl (.loop r)).1
 refine ym (by simp[ho]) ?_
 have hexec:(execOp a.eval o).run X.P w=.ok (.round L r.fn ((r.params.zip (c.args.map a.eval)).foldl (fun tmps (t,a)=>tmps.setIfInBounds t a) r.tmps) r.assign r.body) w:=by
  simp only[execOp,ho,resolve,hc,hfv,Deferred.ofValue,Sem.run_bind,Sem.run_pure,Result.andThen_ok,invoke]
  have:=run_yield (P:=X.P) (w:=w) (args:=c.args.map a.eval) hheap (by simpa using hps)
  simpa using this
 rw[hexec]
 refine⟨fun h=>by simp[WF] at h,?_⟩
 rw[hXr]
 refine roundIn_of_wpIn (F:=WF none) (n:=0) trivial ?_
 have hXb:(⟨X.P,X.Γ,X.G,some L,mkK w M B s.hp s.ck⟩:Cx).Ok:=⟨hX.Γ,hX.G,fun g=>(hX.G0 g).step hst hX.own,fun b hb=>(hho.own b hb).1⟩
 obtain⟨hm1,hm2⟩:=zlW hev c.args
 have htm0:zag (mkK w M B s.hp s.ck) tmc r.tmps:=⟨hsnap.1,fun t v hv=>(hsnap.2 t v hv).step hst hX.own⟩
 have htm1:=zhv (k:=mkK w M B s.hp s.ck) r.params.toList (c.args.toList.map (ev X s)) (c.args.map a.eval).toList htm0 (by simp) fun j v hv=>by
  have:=hm2 j v hv
  simpa [List.getD_eq_getElem?_getD,Array.getD_eq_getD_getElem?] using this
 have hfold:((r.params.zip (c.args.map a.eval)).foldl (fun tmps (t,a)=>tmps.setIfInBounds t a) r.tmps)=(r.params.toList.zip (c.args.map a.eval).toList).foldl (fun t x=>t.setIfInBounds x.1 x.2) r.tmps:=by
  rw[← Array.toList_zip,← Array.foldl_toList]
 have hrel:Rel (mkK w M B s.hp s.ck) ⟨s.ck,zeE tmc r.params.toList (c.args.toList.map (ev X s)),s.hp⟩ { tmps:=(r.params.zip (c.args.map a.eval)).foldl (fun tmps (t,a)=>tmps.setIfInBounds t a) r.tmps,defers:=[] } w:=by
  rw[hfold]
  exact⟨M,B,Step.refl _,hho,htm1,[],rfl,List.nodup_nil,by simp⟩
 rw[zjO]
 refine wpIn_mono (h _ hXb _ w hrel) fun e a1 w1 ⟨s1,⟨he,hl1,hT⟩,hr1⟩=>?_
 subst he
 obtain⟨M1,B1,hst1,hho1,htm1',hmk1⟩:=hr1
 obtain⟨hh1,p1,p2⟩:=vK hho1 hl1 (.loop { r with state:=.busy })
 refine⟨_,run_beginRound hh1 hrs,?_⟩
 have hown1:∀ b,(mkK w1 M1 B1 s1.hp s1.ck).owned b→(mkK w1 M1 B1 s1.hp s1.ck).M b:=fun b hb=>(hho1.own b hb).1
 have hrel2:Rel (mkK w M B s.hp s.ck) ⟨s1.ck,s1.tm,updH s1.hp (0,L) (.raw (.loop { r with state:=.busy }))⟩ a1 (w1.putObj L (.loop { r with state:=.busy })) :=
  ⟨M1,B1,hst1.trans p1,p2,htm1'.step p1 hown1,hmk1.step p1⟩
 refine wpIn_mono (hT a1 _ hrel2) fun e a2 w2 ⟨s2,⟨hl2,hK⟩,hr2⟩=>?_
 obtain⟨M2,B2,hst2,hho2,htm2,hmk2⟩:=hr2
 have fin:∀ j,zmj e=some j→∃ v w',(Instr.endRound L j).run X.P w2=.ok v w'∧next (a.put o.dst v) w':=by
  intro j hj
  rw[hj] at hK
  obtain⟨hh2,p3,p4⟩:=vK hho2 hl2 (.loop { r with state:=if j.isNone then .ready else .done,pending:=j })
  refine⟨_,_,run_endRound j hh2,?_⟩
  have hS:Step (mkK w M B s.hp s.ck) _:=hst2.trans p3
  refine hn _ _ _ hK ⟨M2,B2,hst.trans hS,p4,(htm.step hS fun b hb=>(hho.own b hb).1).put (.bool _),?_⟩
  have:(a.put o.dst (.bool j.isNone)).defers=a.defers:=by cases o.dst <;> rfl
  rw[this]
  exact hmk.step hS
 cases e with
 | normal=>exact fin none rfl
 | ret=>exact fin (some .ret) rfl
 | exit id=>exact fin (some (.exit id)) rfl
 | goto t=>exact hK.elim
 | panic c=>exact hK.elim
 | outgrown=>exact hK.elim
def zcb (L:Nat)(hp:Heap):Heap:=fun l=>if l=(0,L) then none else hp l
def overQ (X:Cx)(s:St)(L:Nat)(Q:Exit→St→Prop)(s':St):Prop :=
 ∃ r':Loop,s'.hp (0,L)=some (.raw (.loop r'))∧r'.state≠.busy∧match r'.pending with
  | none=>Q .normal ⟨s'.ck+1,s.tm,zcb L s'.hp⟩
  | some j=>T X j ⟨s'.ck+1,s.tm,zcb L s'.hp⟩ Q
theorem T.rangeFunc {X:Cx}(hX:X.Ok)(hXr:X.r=none){g:Operand}{ps:Array Tmp}{assign body:Code}{s:St}{Q:Exit→St→Prop}{f:FuncId}{cap:List V}{fn:Func}{c:Code}
 (hg:ev X s g=.fn (.func f) [] cap) (hen:zl X.P f) (hf:X.P.funcs[f]?=some fn) (hb:fn.body=some c) (hfree:∀ L,s.hp (0,L)=none)
 (h:∀ (L:Nat) (r:Loop) (k1:K),r.params=ps→r.assign=assign→r.body=body→r.state=.ready→r.pending=none→zag k1 s.tm r.tmps→(⟨X.P,X.Γ,X.G,none,k1⟩:Cx).Ok →
  T ⟨X.P,X.Γ,X.G,none,k1⟩ c ⟨s.ck+1,(.fn (.yield L) [] []::cap)++List.replicate (fn.ntmps - (V.fn (.yield L) [] []::cap).length) .top,updH s.hp (0,L) (.raw (.loop r))⟩
   (inQ ⟨X.P,X.Γ,X.G,none,k1⟩ fn.results.toList fun _ s'=>overQ X s L Q s')):T X (.rangeFunc g ps assign body) s Q:=by
 intro a w ⟨M,B,hst,hho,htm,hmk⟩
 refine wpIn_rangeFunc fun fn0 _=>?_
 have hev:=zcw hX (ds:=a.defers) hst htm g
 rw[hg] at hev
 obtain⟨fs,cs,hfv,hfs,hcs,hfr,hcr⟩:=R.fn_inv hev
 have hfs0:fs=#[]:=Array.eq_empty_of_size_eq_zero (by simpa using hfs)
 subst hfs0
 obtain⟨rec,hrec⟩:∃ rec:Loop,rec={ state:=.ready,pending:=none,fn:=fn0,tmps:=a.tmps,params:=ps,assign,body,defers:=w.heap.size }:=⟨_,rfl⟩
 obtain⟨w1,hw1⟩:∃ w1,(w.alloc (.deferred (some []))).alloc (.loop rec)=w1:=⟨_,rfl⟩
 have hsz:w1.heap.size=w.heap.size+1+1:=by rw[← hw1];simp
 have hL:w1.heap[w.heap.size+1]?=some (.loop rec):=by
  rw[← hw1];have:=World.alloc_heap_new (w.alloc (.deferred (some []))) (.loop rec);rwa [World.size_alloc] at this
 have hD:w1.heap[w.heap.size]?=some (.deferred (some [])):=by
  rw[← hw1,wR (by simp)];exact World.alloc_heap_new w _
 have hold:∀ b,b < w.heap.size→w1.heap[b]?=w.heap[b]?:=fun b hb=>by
  rw[← hw1,wR (by simp;omega),wR hb]
 let L:=w.heap.size+1
 let k1:K:=mkK w1 (fun b=>M b∨b=w.heap.size∨b=L) (yl B (0,L) (some (L,0))) (updH s.hp (0,L) (.raw (.loop rec))) s.ck
 have hne:∀ l':Loc,l'≠(0,L)→updH s.hp (0,L) (.raw (.loop rec)) l'=s.hp l'∧yl B (0,L) (some (L,0)) l'=B l':=fun l' h=>⟨zc h,vx h⟩
 have hown:∀ b,k1.owned b→(mkK w M B s.hp s.ck).owned b∨b=L:=by
  rintro b ⟨l',o',c',h1,h2⟩
  by_cases e:l'=(0,L)
  ·subst e
   have:yl B (0,L) (some (L,0)) (0,L)=some (b,c'):=h2
   rw[zR] at this
   cases this
   exact .inr rfl
  ·have h3:updH s.hp (0,L) (.raw (.loop rec)) l'=some o':=h1
   have h4:yl B (0,L) (some (L,0)) l'=some (b,c'):=h2
   rw[(hne l' e).1] at h3;rw[(hne l' e).2] at h4
   exact .inl ⟨l',o',c',h3,h4⟩
 have st1:Step (mkK w M B s.hp s.ck) k1:=by
  refine⟨by show w1.os=w.os;rw[← hw1];rfl,by show w1.tape=w.tape;rw[← hw1];rfl,by show w1.output=w.output;rw[← hw1];rfl,by show w.heap.size≤w1.heap.size;omega,fun b hb _=>hold b hb,fun b hb'=>?_,fun b hb' hm=>?_,fun b _ _ hm=>.inl hm,fun l' hl'=>ye hl',fun l' hl' o' ho'=>?_⟩
  ·rcases hown b hb' with q | q
   ·exact .inl q
   ·exact .inr (by show w.heap.size≤b;omega)
  ·have hb2:b < w.heap.size:=hb'
   rcases hm with q | q | q
   ·exact q
   ·omega
   ·omega
  ·by_cases e:l'=(0,L)
   ·subst e
    have h3:updH s.hp (0,L) (.raw (.loop rec)) (0,L)=some o':=ho'
    rw[zd] at h3
    cases h3
    trivial
   ·have h3:updH s.hp (0,L) (.raw (.loop rec)) l'=some o':=ho'
    rw[(hne l' e).1] at h3
    have q:=(Step.refl (mkK w M B s.hp s.ck)).names l' hl' o' h3
    cases o' with
    | dead=>trivial
    | raw r=>trivial
    | cells cs=>exact⟨q.1,(hne l' e).2⟩
    | buf _ _ _=>exact⟨q.1,(hne l' e).2⟩
    | arr n sz get=>obtain⟨n0,g0,q1,q2,q3⟩:=q;exact⟨n0,g0,q1,q2,fun _=>(hne l' e).2⟩
 have ho1:HeapOk k1:=by
  refine⟨fun b hb'=>?_,fun b hb'=>?_,fun l' o' h1=>?_,fun l1 l2 b c1 c2 o1 o2 h1 h2 h3 h4=>?_,fun l' o' h1=>?_⟩
  ·show b < w1.heap.size
   rcases hb' with q | q | q
   ·have:b < w.heap.size:=hho.lt b q
    omega
   ·omega
   ·omega
  ·rcases hown b hb' with q | q
   ·refine⟨.inl (hho.own b q).1,?_⟩
    have:b < w.heap.size:=(hho.own b q).2
    show b < w1.heap.size
    omega
   ·exact⟨.inr (.inr q),by show b < w1.heap.size;omega⟩
  ·by_cases e:l'=(0,L)
   ·subst e
    by_cases z:s.ck=0
    ·exact .inr ⟨by show 0=s.ck;omega,by show (updH s.hp (0,L) (.raw (.loop rec)) (0,L)).isSome=true;rw[zd];rfl⟩
    ·exact .inl (by show 0 < s.ck;omega)
   ·have h3:updH s.hp (0,L) (.raw (.loop rec)) l'=some o':=h1
    rw[(hne l' e).1] at h3
    exact ye (hho.nm l' o' h3)
  ·have f:∀ l' o' c',l'≠(0,L)→updH s.hp (0,L) (.raw (.loop rec)) l'=some o'→yl B (0,L) (some (L,0)) l'=some (b,c')→b < w.heap.size∧s.hp l'=some o'∧B l'=some (b,c'):=by
    intro l' o' c' e g1 g2
    rw[(hne l' e).1] at g1;rw[(hne l' e).2] at g2
    exact⟨(hho.own b ⟨l',o',c',g1,g2⟩).2,g1,g2⟩
   by_cases e1:l1=(0,L)
   ·by_cases e2:l2=(0,L)
    ·rw[e1,e2]
    ·have:=f l2 o2 c2 e2 h2 h4
     subst e1
     have g:yl B (0,L) (some (L,0)) (0,L)=some (b,c1):=h3
     rw[zR] at g
     cases g
     omega
   ·by_cases e2:l2=(0,L)
    ·have:=f l1 o1 c1 e1 h1 h3
     subst e2
     have g:yl B (0,L) (some (L,0)) (0,L)=some (b,c2):=h4
     rw[zR] at g
     cases g
     omega
    ·obtain⟨_,a1,a2⟩:=f l1 o1 c1 e1 h1 h3
     obtain⟨_,b1,b2⟩:=f l2 o2 c2 e2 h2 h4
     exact hho.inj l1 l2 b c1 c2 o1 o2 a1 b1 a2 b2
  ·by_cases e:l'=(0,L)
   ·subst e
    have h3:updH s.hp (0,L) (.raw (.loop rec)) (0,L)=some o':=h1
    rw[zd] at h3
    cases h3
    exact⟨zR B (0,L) _,hL⟩
   ·have h3:updH s.hp (0,L) (.raw (.loop rec)) l'=some o':=h1
    rw[(hne l' e).1] at h3
    exact ObjOk.step st1 hho h3 h1 (hne l' e).2 fun b c hb'=>hold b (hho.own b ⟨l',o',c,h3,hb'⟩).2
 have hown0:∀ b,(mkK w M B s.hp s.ck).owned b→(mkK w M B s.hp s.ck).M b:=fun b hb=>(hho.own b hb).1
 have htm1:zag k1 s.tm rec.tmps:=by
  rw[hrec];exact htm.step st1 hown0
 have hX1:(⟨X.P,X.Γ,X.G,none,k1⟩:Cx).Ok:=⟨hX.Γ,hX.G,fun g=>(hX.G0 g).step (hst.trans st1) hX.own,fun b hb=>(ho1.own b hb).1⟩
 have hT:=h L rec k1 (by rw[hrec]) (by rw[hrec]) (by rw[hrec]) (by rw[hrec]) (by rw[hrec]) htm1 hX1
 have hargs:zae k1 (.fn (.yield L) [] []::cap) (#[.func (.yield L) #[] #[]]++cs):=by
  refine⟨by simp[hcs];omega,fun j v hv=>?_⟩
  cases j with
  | zero =>
    simp only[List.getElem?_cons_zero,Option.some.injEq] at hv
    subst hv
    have:(#[Value.func (.yield L) #[] #[]]++cs).getD 0 undef=.func (.yield L) #[] #[]:=by
     rw[Array.getD_eq_getD_getElem?,Array.getElem?_append_left (by simp)]
     rfl
    rw[this]
    exact .fn _ _ _ _ _ rfl rfl (by simp) (by simp)
  | succ j =>
    have h1:=(hcr j v (by simpa using hv)).step st1 hown0
    have:(#[Value.func (.yield L) #[] #[]]++cs).getD (j+1) undef=cs.getD j undef:=by
     simp only[Array.getD_eq_getD_getElem?]
     rw[Array.getElem?_append_right (by simp)]
     simp
    rw[this];exact h1
 have hcall:=zdb hf hb hX.Γ hX.G (w0:=w1) (M0:=fun b=>M b∨b=w.heap.size∨b=L) (B0:=yl B (0,L) (some (L,0))) (hp0:=updH s.hp (0,L) (.raw (.loop rec))) (ck0:=s.ck) ho1 hX1.G0 hargs hT
 refine⟨L,[{ target:=.collected w.heap.size,args:=#[] }],w1,{ target:=.fn (.func f) cs,args:=#[.func (.yield L) #[] #[]] },w1,f,#[.func (.yield L) #[] #[]]++cs,w1,?_,?_,?_,?_,?_,?_⟩
 ·rw[hXr,← hw1,hrec];exact run_enterLoop_outer _ _ _ _ _
 ·simp only[resolve,hfv]
  simp[go_sem]
 ·intro f' _;trivial
 ·simp only[invoke]
  simp only[hen _ w1]
 ·intro h;simp[WF] at h
 ·refine qN.2 (hcall.mono fun e w' ⟨rv,v,s',M',B',⟨r',hr',hnb,hfin⟩,he,hstp,hho',_⟩=>?_)
  subst he
  obtain⟨hh,p1,p2⟩:=vK hho' hr' (.loop { r' with state:=.exhausted })
  refine⟨_,_,run_endLoop hh hnb,?_⟩
  have hS:Step (mkK w M B s.hp s.ck) (mkK (w'.putObj L (.loop { r' with state:=.exhausted })) M' B' (updH s'.hp (0,L) (.raw (.loop { r' with state:=.exhausted }))) s'.ck):=st1.trans (hstp.trans p1)
  have hnD:¬ k1.owned w.heap.size:=by
   intro q
   rcases hown _ q with q | q
   ·have:w.heap.size < w.heap.size:=(hho.own _ q).2
    omega
   ·omega
  have hDsz:w.heap.size < k1.w.heap.size:=by show w.heap.size < w1.heap.size;omega
  have hrel:Rel X.k0 ⟨s'.ck,s.tm,updH s'.hp (0,L) (.raw (.loop { r' with state:=.exhausted }))⟩ { a with defers:=[{ target:=.collected w.heap.size,args:=#[] }]++a.defers } (w'.putObj L (.loop { r' with state:=.exhausted })):=by
   obtain⟨rs,hds,hnd,hmks⟩:=hmk.step hS
   obtain⟨rs0,hds0,hnd0,hmks0⟩:=hmk
   refine⟨M',B',hst.trans hS,p2,htm.step hS hown0,w.heap.size::rs0,by simp[hds0],List.nodup_cons.2 ⟨fun q=>?_,hnd0⟩,fun r hr=>?_⟩
   ·have:=wt (hmks0 _ q).1
    have h2:w.heap.size < w.heap.size:=this
    omega
   ·rcases List.mem_cons.1 hr with rfl | hr
    ·refine⟨?_,?_,?_,hst.size⟩
     ·show (w'.putObj L _).heap[w.heap.size]?=_
      rw[World.putObj_heap_other (by omega)]
      exact(hstp.keep _ hDsz hnD).trans hD
     ·exact hstp.M2 _ hDsz hnD (.inr (.inl rfl))
     ·intro q
      have q':(mkK w' M' B' s'.hp s'.ck).owned w.heap.size∨(mkK w' M' B' s'.hp s'.ck).w.heap.size≤w.heap.size:=p1.own _ q
      rcases q' with q' | q'
      ·rcases hstp.own _ q' with q2 | q2
       ·exact hnD q2
       ·have:w1.heap.size≤w.heap.size:=q2
        omega
      ·have h1:=hstp.size
       have h2:w1.heap.size≤w'.heap.size:=h1
       have h3:w'.heap.size≤w.heap.size:=q'
       omega
    ·have hm:r∈rs:=by
      have:rs=rs0:=by
       have h5:=hds.symm.trans hds0
       exact(List.map_inj_right (fun x y h=>by simpa using h)).1 h5
      rw[this];exact hr
     exact hmks r hm
  have hrel2:Rel X.k0 ⟨s'.ck+1,s.tm,zcb L s'.hp⟩ { a with defers:=[{ target:=.collected w.heap.size,args:=#[] }]++a.defers } (w'.putObj L (.loop { r' with state:=.exhausted })):=by
   refine wu.weak (s:=⟨s'.ck,s.tm,updH s'.hp (0,L) (.raw (.loop { r' with state:=.exhausted }))⟩) (s':=⟨s'.ck+1,s.tm,zcb L s'.hp⟩) (by simp) rfl (fun d v' hv=>.inr hv) (fun l o ho=>?_) (fun l _=>.inr (by simp)) _ _ hrel
   have ho2:(if l=(0,L) then none else s'.hp l)=some o:=ho
   split at ho2
   ·cases ho2
   ·rename_i hne'
    exact⟨o,by show updH s'.hp (0,L) _ l=_;rw[zc hne'];exact ho2,ObjLe.refl o⟩
  cases hp:r'.pending with
  | none =>
    rw[hp] at hfin hrel2
    exact⟨_,hfin,hrel2⟩
  | some j =>
    rw[hp] at hfin hrel2
    exact hfin _ _ hrel2
theorem zdh.of {X:Cx}(hXr:X.r=none){s:St}{dst:Option Tmp}{L:Nat}{args:List V}{Kn:St→Prop}{r:Loop}(hl:s.hp (0,L)=some (.raw (.loop r)))(hrs:r.state=.ready)(hps:args.length=r.params.size)
 {tmc:List V} (hsnap:zag X.k0 tmc r.tmps) {D:zL} (hda:wD D r.assign=true) (hdb:wD D r.body=true) (hm:X.P.follows .mixedOrders=true)
 (h:∀ kb,exC ⟨X.P,X.Γ,X.G,some L,kb⟩ D r.assign ⟨s.ck,zeE tmc r.params.toList args,s.hp⟩ (fun e s1=>e=.normal∧s1.hp (0,L)=some (.raw (.loop r)) ∧
  exC ⟨X.P,X.Γ,X.G,some L,kb⟩ D r.body ⟨s1.ck,s1.tm,updH s1.hp (0,L) (.raw (.loop { r with state:=.busy }))⟩ (zhE s dst L r Kn))):zdh X s dst L args Kn:=by
 intro hX o c x ho hc hx ha hd
 subst ha
 subst hd
 refine yield_ok hX hXr ho hc hx hl hrs (by simpa using hps) hsnap fun kb hkb=>?_
 exact T.mono (yk hkb hm _ _ _ hda (h kb)) fun e s1 ⟨g1,g2,g3⟩=>⟨g1,g2,yk hkb hm _ _ _ hdb g3⟩
theorem zB.rangeFunc {X:Cx}(hXr:X.r=none){D:zL}{g:Operand}{ps:Array Tmp}{assign body:Code}{s:St}{Q:Exit→St→Prop}{f:FuncId}{cap:List V}{fn:Func}{c:Code}
 (hg:ev X s g=.fn (.func f) [] cap) (hen:zl X.P f) (hf:X.P.funcs[f]?=some fn) (hb:fn.body=some c) (hfree:∀ L,s.hp (0,L)=none) {Dc:zL} (hdc:wD Dc c=true)
 (h:∀ (L:Nat) (r:Loop) (k1:K),r.params=ps→r.assign=assign→r.body=body→r.state=.ready→r.pending=none→zag k1 s.tm r.tmps→X.P.follows .mixedOrders=true→wD D assign=true→wD D body=true →
  exC ⟨X.P,X.Γ,X.G,none,k1⟩ Dc c ⟨s.ck+1,(.fn (.yield L) [] []::cap)++List.replicate (fn.ntmps - (V.fn (.yield L) [] []::cap).length) .top,updH s.hp (0,L) (.raw (.loop r))⟩
   (inQ ⟨X.P,X.Γ,X.G,none,k1⟩ fn.results.toList fun _ s'=>∃ r':Loop,s'.hp (0,L)=some (.raw (.loop r'))∧r'.state≠.busy∧match r'.pending with
    | none=>Q .normal ⟨s'.ck+1,s.tm,zcb L s'.hp⟩
    | some j=>∀ k0',exC ⟨X.P,X.Γ,X.G,none,k0'⟩ D j ⟨s'.ck+1,s.tm,zcb L s'.hp⟩ Q∧wD D j=true)):zB X D (.rangeFunc g ps assign body) s Q:=by
 intro hd hX hm
 simp only[wD,Bool.and_eq_true] at hd
 obtain⟨P,Γ,G,r0,k0⟩:=X
 simp only at hXr
 subst hXr
 refine T.rangeFunc hX rfl hg hen hf hb hfree fun L r k1 e1 e2 e3 e4 e5 e6 e7=>?_
 refine T.mono (yk e7 hm _ _ _ hdc (h L r k1 e1 e2 e3 e4 e5 e6 hm hd.1 hd.2)) fun e s' q=>?_
 have key:∀ {s':St},(∃ v,yR ⟨P,Γ,G,none,k1⟩ s' fn.results.toList=some v∧∃ r':Loop,s'.hp (0,L)=some (.raw (.loop r'))∧r'.state≠.busy∧match r'.pending with
  | none=>Q .normal ⟨s'.ck+1,s.tm,zcb L s'.hp⟩
  | some j=>∀ k0',exC ⟨P,Γ,G,none,k0'⟩ D j ⟨s'.ck+1,s.tm,zcb L s'.hp⟩ Q∧wD D j=true) →
  ∃ v,yR ⟨P,Γ,G,none,k1⟩ s' fn.results.toList=some v∧overQ ⟨P,Γ,G,none,k0⟩ s L Q s':=by
  rintro s' ⟨v,hv,r',a1,a2,a3⟩
  refine⟨v,hv,r',a1,a2,?_⟩
  cases hp:r'.pending with
  | none=>simpa [hp] using a3
  | some j =>
    simp only[hp] at a3 ⊢
    exact yk hX hm _ _ _ (a3 k0).2 (a3 k0).1
 cases e with
 | normal=>exact key q
 | ret=>exact key q
 | _=>exact q
end Go.Fly
end
