/- Part of a proof. No conditions. -/
import Derived.Test.YtkfbgillhhhdgaaGreatDoorAL
import Derived.Test.YtkfbgillhhhdgaaGreatDoorAP
import Derived.Test.YtkfbgillhhhdgaaGreatDoorAK
import Derived.MapKept
import Derived.Test.YtkfbgillhhhdgaaGreatDoorAI
set_option linter.unusedSimpArgs false
set_option linter.unusedVariables false
section
namespace Go.Fly
open Go
theorem cell_fn0 {k k2:IntKind}{f g:Nat→Int}{i:Nat}:cell (fun i=>[V.int k (f i),V.int k2 (g i)]) i 0=f i:=rfl
theorem cell_fn1 {k k2:IntKind}{f g:Nat→Int}{i:Nat}:cell (fun i=>[V.int k (f i),V.int k2 (g i)]) i 1=g i:=rfl
theorem cast3:((3:Nat):Int)=3:=rfl
attribute [go_sem] cell_fn0 cell_fn1 cast3
end Go.Fly
end
section
namespace Go.Fly.Off
open Go
def hN (i:Nat):Str:=[104,UInt8.ofNat (48+i)]
def oN (k:Nat):Str:=[111,UInt8.ofNat (48+k)]
def sJet:Str:=[106,101,116]
def fbase:List Ev:=[⟨1,Kd.str .type,[sJet],[1,100000000],[]⟩,⟨2,Kd.str .house,[hN 0],[1,1000],[]⟩,⟨3,Kd.str .house,[hN 1],[1,1000],[]⟩,⟨4,Kd.str .house,[hN 2],[1,1000],[]⟩,
 ⟨5,Kd.str .flight,[[102],sJet],[1,5],[]⟩,⟨6,Kd.str .publish,[[109]],[1],[]⟩]
def fReg (offers:List Of)(fund:Int):Reg:={ day:=1,types:=[⟨sJet,100000000,1000⟩],houses:=[⟨hN 0,1000⟩,⟨hN 1,1000⟩,⟨hN 2,1000⟩],flights:=[⟨[102],sJet,1,5,-1⟩],maps:=[⟨[109],1,[70,70,70]⟩],offers:=offers,complaints:=[],fund:=fund }
structure FInv (l:List Ev) (offers:List Of) (fund:Int) (k:Nat):Prop where
 len:6≤l.length∧l.length≤6+2 * k
 rep:replayed levelE l=(⟨l,l,fReg offers fund⟩,0,0)
 names:∀ o∈offers,∃ j,j < k∧o.name=oN j
 many:offers.length≤k
 paid:∀ o∈offers,∃ i,i < 3∧o.house=hN i
 fund:0≤fund∧fund≤65536 * k
end Go.Fly.Off
end
section
namespace Go.Fly
open Go
def wName (get:Nat→List V)(i:Nat):List UInt8:=match (get i)[0]? with | some (V.str s)=>s | _=>[]
structure TabOk2 (n:Nat) (get:Nat→List V):Prop where
 cnt:0 < n∧n≤16
 from_:∀ i,i < n→1≤cell get i 0∧cell get i 0≤1000000
 fac:∀ i,i < n→0≤cell get i 1∧cell get i 1≤1000
 up:∀ i,i+1 < n→cell get i 0 < cell get (i+1) 0
 down:∀ i,i+1 < n→cell get (i+1) 1≤cell get i 1
structure NA where
 i:Nat
 nu:Nat→Loc
 H:Heap
structure NInv (L:Loc) (sz:Nat) (row:(Nat→Loc)→Nat→List V) (szI:Nat) (m:Nat→Nat) (g:Nat→Nat→List V) (base:Heap) (cb n ck:Nat) (b:NA):Prop where
 le:b.i≤n
 outer:b.H L=some (.arr b.i sz (row b.nu))
 inner:∀ j,j < b.i→b.H (b.nu j)=some (.arr (m j) szI (g j))
 lo:∀ j,j < b.i→cb < (b.nu j).1
 hi:∀ j,j < b.i→(b.nu j).1 < ck
 ne:∀ j,j < b.i→b.nu j≠L
 inj:∀ j k,j < b.i→k < b.i→b.nu j=b.nu k→j=k
 base:∀ l,l.1≤cb→b.H l=base l
 free:∀ l,ck≤l.1→b.H l=none
theorem zy.same {hp:Heap}{l:Loc}{a b:AObj}(h:ObjLe a b):zy (updH hp l a) (updH hp l b):=by
 intro l' o' h'
 by_cases e:l'=l
 ·subst e
  rw[zd] at h' ⊢
  cases h'
  exact⟨a,rfl,h⟩
 ·rw[zc e] at h' ⊢
  exact⟨o',h',ObjLe.refl _⟩
structure WallOk (nm:List UInt8) (ax ay bx ky h ec:Int):Prop where
 name:nameB nm=true
 p1:-1000≤ax∧ax≤1000
 p2:-1000≤ay∧ay≤1000
 p3:-1000≤bx∧bx≤1000
 p4:-1000≤ky∧ky≤1000
 two:¬ (ax=bx∧ay=ky)
 high:1≤h∧h≤1000
 echo:0≤ec∧ec≤1000
structure WallsOk (n:Nat) (get:Nat→List V):Prop where
 cnt:n≤32
 wall:∀ i,i < n→WallOk (wName get i) (cell get i 1) (cell get i 2) (cell get i 3) (cell get i 4) (cell get i 5) (cell get i 6)
 two:∀ i k,i < n→k < i→wName get k≠wName get i
end Go.Fly
end
section
namespace Go.Fly.Off
open Go
structure BE where
 in_:Bool
 home:Str
 amount:Int
deriving Inhabited,DecidableEq
def encBE (x:BE):List V:=[.bool x.in_,.str x.home,.int .i64 x.amount]
def decBE:List V→BE | [a,b,c]=>⟨zfZ a,zQ b,wo c⟩ | _=>default
theorem dec_be (x:BE):decBE (encBE x)=x:=rfl
theorem decBE_3 {a b c:V}:decBE [a,b,c]=⟨zfZ a,zQ b,wo c⟩:=rfl
theorem eta_be (x:BE):BE.mk x.in_ x.home x.amount=x:=rfl
attribute [go_sem] dec_be decBE_3 eta_be
def beE (b:Int)(p:List Str)(x:BE):Int :=
 zv [rng x.amount 1 100000000,err (x.in_ && decide (x.home≠[])) 1,err (!x.in_ && !nameB x.home) 8,err (!x.in_ && decide (x.home∈p)) 9,err (!x.in_ && decide (b < x.amount)) 23]
def balS:List BE→Int→List Str→Option (Int×List Str)
 | [],b,p=>some (b,p)
 | x::l,b,p=>if beE b p x≠0 then none else if x.in_=true then balS l (b+x.amount) p else balS l (b - x.amount) (x.home::p)
structure TInv (told:List BE) (offers:List Of) (fund:Int) (k:Nat):Prop where
 len:told.length=k
 run:∃ p,balS told 0 []=some (fund,p)∧∀ i,i < 3→(hN i∈p↔offers.any (fun x=>decide (x.house=hN i))=true)
def sN (f:Nat→Int):Nat→Int
 | 0=>0
 | n+1=>sN f n+f n
def hmRow (f:Nat→Int):List V:=[.int .i64 (f 0),.int .i64 (f 1),.int .i64 (f 2),.int .i64 (f 3),.int .i64 (f 4),.int .i64 (f 5),.int .i64 (f 6),.int .i64 (f 7),.int .i64 100,
 .int .i64 1000,.int .i64 1000,.int .i64 1000,.int .i64 1000,.int .i64 1000,.int .i64 1000,.int .i64 1000,.int .i64 1000,.int .i64 1000,.int .i64 1000,.int .i64 1000,.int .i64 1000,.int .i64 1000,.int .i64 1000,.int .i64 1000,.int .i64 1000]
def homeV (s:Str)(f:Nat→Int):V:=.agg [.str s,.int .i64 0,.sl 1 25 fun _=>hmRow f]
def wSum (cs:List V):Int:=sN (fun i=>wo (cs.getD i .top)) 8
theorem wSum_row {f:Nat→Int}:wSum (hmRow f)=sN f 8:=rfl
theorem zkm {f:Nat→Int}{r:List V}:wSum (.int .i64 (f 0)::.int .i64 (f 1)::.int .i64 (f 2)::.int .i64 (f 3)::.int .i64 (f 4)::.int .i64 (f 5)::.int .i64 (f 6)::.int .i64 (f 7)::r)=sN f 8:=rfl
def hSum:V→Int
 | .agg [_,_,.sl _ _ g]=>wSum (g 0)
 | _=>0
theorem zmr {s:Str}{f:Nat→Int}:hSum (homeV s f)=sN f 8:=rfl
theorem hSum_U {a b:V}{n sz:Nat}{f:Nat→Int}:hSum (.agg [a,b,.sl n sz fun _=>hmRow f])=sN f 8:=rfl
attribute [go_sem] wSum_row zkm zmr hSum_U
def jC (l:List Ev)(c:Int)(s:Str):Int:=if (replayed levelE l).2.2≠0 then (replayed levelE l).2.2 else err (!decide (s∈(replayed levelE l).1.now.namesOf c)) 10
def askC:Contract:=fun _ args=>⟨∃ l c s,args=[zf 5 encEv l,.int .u8 c,.str s]∧l.length≤1000000∧(∀ e∈l,EvB e),
 .tup [.cptr (zz (replayed levelE (zi zI (arg args 0))).1),.int .i64 (jC (zi zI (arg args 0)) (wo (arg args 1)) (zQ (arg args 2)))],none⟩
def znG (l:List Ev)(s:Str):Int×Int×Int :=
 if jC l 104 s≠0 then (0,0,jC l 104 s) else
  let r:=(replayed levelE l).1.now
  (zbu (r.chain (r.house s).share),levelE (zbu (r.chain (r.house s).share)),0)
def zbe:Contract:=fun _ args=>⟨∃ l s,args=[zf 5 encEv l,.str s]∧l.length≤1000000∧(∀ e∈l,EvB e),
 .tup [.int .i64 (znG (zi zI (arg args 0)) (zQ (arg args 1))).1,.int .i64 (znG (zi zI (arg args 0)) (zQ (arg args 1))).2.1,.int .i64 (znG (zi zI (arg args 0)) (zQ (arg args 1))).2.2],none⟩
attribute [go_sem] askC zbe
theorem qO {l:List Ev}{c:Int}{s:Str}(h:jC l c s=0):(replayed levelE l).2.2=0∧s∈(replayed levelE l).1.now.namesOf c:=by
 unfold jC at h
 split at h
 ·rename_i q;exact absurd h q
 ·rename_i q
  have:=(w4 (e:=10) (by decide)).1 h
  exact⟨Classical.not_not.1 q,by simpa using this⟩
theorem za1 {r:Reg}{s:Str}(h:s∈r.namesOf 104):r.house s∈r.houses:=wd (zU (f:=Ho.name) h)
theorem wN (l:List Ev):Good (replayed levelE l).1.now:=(yS l).1.good
def zcE:Contract:=fun _ args=>⟨∃ n get,args=[.sl n 1 get]∧zb4 n get,zg (wL (arg args 0)),none⟩
theorem dec_lit1 {a:Str}:wL (.sl 1 1 (wa [.str a] 1))=[a]:=rfl
theorem dec_lit2 {a b:Str}:wL (.sl 2 1 (wa [.str a,.str b] 1))=[a,b]:=rfl
theorem zna {a:Int}:yr (.sl 1 1 (wa [.int .i64 a] 1))=[a]:=rfl
theorem zn9 {a b:Int}:yr (.sl 2 1 (wa [.int .i64 a,.int .i64 b] 1))=[a,b]:=rfl
attribute [go_sem] dec_lit1 dec_lit2 zna zn9
theorem zas {a:Str}:zb4 1 (wa [.str a] 1):=⟨by omega,fun i hi=>by obtain rfl:i=0:=(by omega);rfl⟩
theorem zhi {n:Nat}{get:Nat→List V}(h:zb4 n get):zo (.sl n 1 get) (zg (wL (.sl n 1 get))):=wP (by simp[wL,zi]) fun i hi=>by
 have hi:i < n:=by simpa [wL,zi] using hi
 rw[h.2 i hi]
 simp[wL,zi,el,hi]
theorem w8:(64 < 8∧IntKind.u8.signed=true)=False:=eq_false (by decide)
attribute [go_sem] zcE
structure JAt (S:Heap) (box ln:Loc) (l:List Ev) (ck:Nat):Prop where
 atb:S box=some (.cells [.msl ln 0 l.length])
 atl:S ln=some (.arr l.length 5 fun i=>encEv (el l i))
 lo1:box.1≤ck
 lo2:ln.1≤ck
 ne:¬ box=ln
 free:∀ q:Loc,ck < q.1→S q=none
 len:l.length≤1000
theorem hpLe_up {S S':Heap}{ck:Nat}(hf:∀ q:Loc,ck < q.1→S q=none)(hs:∀ q:Loc,q.1≤ck→S' q=S q):zy S' S:=fun q o ho=>⟨o,by
 rw[hs q (by apply Classical.byContradiction;intro h;rw[hf q (by omega)] at ho;cases ho)]
 exact ho,ObjLe.refl _⟩
def CallH (X:Cx)(hp:Heap)(ck:Nat)(f:FuncId)(args:List V)[h:Hid (V→Heap→Nat→Prop)]:Prop:=zp X hp ck f args h.val
theorem zC {X:Cx}{hp:Heap}{ck:Nat}{f:FuncId}{args:List V}{Kn:V→Heap→Nat→Prop}:zp X hp ck f args Kn=@CallH X hp ck f args ⟨Kn⟩:=rfl
theorem wh {X:Cx}{hp hp2:Heap}{ck:Nat}{f:FuncId}{args:List V}{Kn:V→Heap→Nat→Prop}(hle:zy hp hp2)(ht:zho args args)(h:zp X hp2 (ck+1) f args Kn):@CallH X hp ck f args ⟨Kn⟩ :=
 zp.pre (fun _=>wu.go ht hle) h
def ExtH (P:Program)(hp:Heap)(f:FuncId)(args:List V)[h:Hid (V→Prop)]:Prop:=ExtT P hp f args h.val
theorem zJ {P:Program}{hp:Heap}{f:FuncId}{args:List V}{Kn:V→Prop}:ExtT P hp f args Kn=@ExtH P hp f args ⟨Kn⟩:=rfl
structure PdOk (n:Nat) (get:Nat→List V) (o:Nat→Bool) (h a:Nat→Int):Prop where
 len:n≤9223372036854775807
 row:∀ i,i < n→get i=[.bool (o i),.int .u8 (h i),.int .u16 (a i)]∧(0≤h i∧h i≤255)∧0≤a i∧a i≤65535
structure JB where
 S:Heap
 l:List Ev
 i:Nat
structure JInv (box ln:Loc) (c:Nat) (b:JB):Prop where
 at_:JAt b.S box ln b.l c
 le:b.i≤3
 eq:b.l=fbase.take (1+b.i)
theorem w864:(8 < 64∧IntKind.i64.signed=true)=True:=eq_true (by decide)
theorem zav {P:Program}{G:Nat→V}{f:FuncId}{C C':Contract}(h:Holds P G f C)
 (hC:∀ rl args,(∀ a∈args,Pu a)→(C' rl args).pre→∃ args2:List V,args2.length=args.length∧(∀ (j:Nat) (v:V),args2[j]?=some v→∃ u,args[j]?=some u∧zo u v)∧(∀ a∈args2,Pu a)∧(C rl args2).pre∧(C rl args2).obj=(C' rl args).obj∧(C rl args2).val=(C' rl args).val):Holds P G f C' :=
 fun rl args w M vs a b c d hp=>by
  obtain⟨args2,h1,h2,h3,h4,h5,h6⟩:=hC rl args c hp
  have:=h rl args2 w M vs a b h3 ⟨by rw[h1];exact d.1,fun j v hj=>by
   obtain⟨u,q1,q2⟩:=h2 j v hj
   exact q2 _ _ (d.2 j u q1)⟩ h4
  rw[h5,h6] at this
  exact this
def RowOk (e:Ev)(r:List V):Prop:=∃ g1 g2,r=[.int .i64 e.num,.str e.kind,.sl e.names.length 1 g1,.sl e.vals.length 1 g2,.str e.text]∧(∀ j,j < e.names.length→g1 j=[.str (el e.names j)])∧∀ j,j < e.vals.length→g2 j=[.int .i64 (el e.vals j)]
theorem qh (e:Ev):RowOk e (encEv e):=⟨_,_,rfl,fun _ _=>rfl,fun _ _=>rfl⟩
theorem RowOk.cell {e:Ev}{r:List V}(h:RowOk e r)(j:Nat)(v:V)(hv:(encEv e)[j]?=some v):∃ u,r[j]?=some u∧zo u v:=by
 obtain⟨g1,g2,rfl,q1,q2⟩:=h
 rcases j with _ | _ | _ | _ | _ | j
 ·exact⟨_,rfl,by simp[encEv] at hv;rw[← hv];exact zo.refl _⟩
 ·exact⟨_,rfl,by simp[encEv] at hv;rw[← hv];exact zo.refl _⟩
 ·exact⟨_,rfl,by simp[encEv] at hv;rw[← hv];exact zo.sl q1⟩
 ·exact⟨_,rfl,by simp[encEv] at hv;rw[← hv];exact zo.sl q2⟩
 ·exact⟨_,rfl,by simp[encEv] at hv;rw[← hv];exact zo.refl _⟩
 ·simp[encEv] at hv
theorem vent_slR {n sz:Nat}{get get':Nat→List V}(hl:∀ i,i < n→(get' i).length=(get i).length)(hp:Pu (.sl n sz get'))(h:∀ (i j:Nat) (v:V),i < n→(get' i)[j]?=some v→∃ u,(get i)[j]?=some u∧zo u v):zo (.sl n sz get) (.sl n sz get'):=fun k cv hR=>by
 cases hR with
 | sl0 _ _ oa cap=>exact .sl0 _ _ oa cap
 | sl _ _ _ b off cap x hM hb hcap hpu hlen hc hr =>
   exact .sl _ _ _ b off cap x hM hb hcap hp (fun i hi=>by rw[hl i hi];exact hlen i hi) hc fun i j v hi hv=>by
    obtain⟨u,h1,h2⟩:=h i j v hi hv
    exact h2 _ _ (hr i j u hi h1)
theorem kx {l:List Ev}{get:Nat→List V}(h:∀ i,i < l.length→RowOk (el l i) (get i)):zo (.sl l.length 5 get) (zf 5 encEv l) :=
 vent_slR (fun i hi=>by obtain⟨g1,g2,q,-⟩:=h i hi;rw[q];rfl) ((kM l).2 trivial) fun i j v hi hv=>(h i hi).cell j v hv
structure JAtR (S:Heap) (box ln:Loc) (l:List Ev) (get:Nat→List V) (ck:Nat):Prop where
 atb:S box=some (.cells [.msl ln 0 l.length])
 atl:S ln=some (.arr l.length 5 get)
 row:∀ i,i < l.length→RowOk (el l i) (get i)
 lo1:box.1≤ck
 lo2:ln.1≤ck
 ne:¬ box=ln
 free:∀ q:Loc,ck < q.1→S q=none
 len:l.length≤1000
structure FB where
 S:Heap
 l:List Ev
 get:Nat→List V
 offers:List Of
 fund:Int
 told:List BE
 k:Nat
structure FBInv (box ln T:Loc) (n:Nat) (c:Nat) (b:FB):Prop where
 at_:JAtR b.S box ln b.l b.get c
 told:b.S T=some (.arr b.told.length 3 fun i=>encBE (el b.told i))
 lo:T.1≤c
 fi:FInv b.l b.offers b.fund b.k
 ti:TInv b.told b.offers b.fund b.k
 le:b.k≤n
 hom:∀ y∈b.told,y.home.length≤1000000
end Go.Fly.Off
end
