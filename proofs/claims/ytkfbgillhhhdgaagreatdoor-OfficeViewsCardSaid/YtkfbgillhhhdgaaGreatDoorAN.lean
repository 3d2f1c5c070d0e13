/- Part of a proof. No conditions. -/
import Derived.Test.YtkfbgillhhhdgaaGreatDoorAM
import Derived.Test.YtkfbgillhhhdgaaGreatDoorAK
set_option linter.unusedSimpArgs false
set_option linter.unusedVariables false
section
namespace Go.Fly.Off
open Go
abbrev It:=Str×Int
def wS (x:It):List V:=[.str x.1,.int .i64 x.2]
def w6:List V→It
 | [a,b]=>(zQ a,wo b)
 | _=>default
theorem ziR (x:It):w6 (wS x)=x:=rfl
theorem decIt_2 {a b:V}:w6 [a,b]=(zQ a,wo b):=rfl
theorem eta_it (x:It):(x.1,x.2)=x:=rfl
theorem vM (x:It):zhg (wS x):=zS (.str _) rfl (zS (.int _ _) rfl vk)
theorem zlj (l:List It):Pu (zf 2 wS l)↔True:=iff_true_intro (vL (fun x=>(vM x).pu) l)
theorem km (l:List It):zi w6 (zf 2 wS l)=l:=yB 2 wS w6 ziR l
theorem dec_itsU (l:List It):zi w6 (.sl l.length 2 fun i=>[.str (el l i).1,.int .i64 (el l i).2])=l:=km l
theorem dec_itsV (l:List It):zi w6 (.sl l.length 2 fun i=>wS (el l i))=l:=km l
theorem pu_itsV (l:List It):Pu (.sl l.length 2 fun i=>wS (el l i))↔True:=zlj l
attribute [go_sem] ziR decIt_2 eta_it zlj km dec_itsU dec_itsV pu_itsV
structure ChainOk (r:Reg) (share:Int):Prop where
 rl:RL r
 types:∀ t∈r.types,(0≤t.energy∧t.energy≤1000000000)∧0≤t.factor∧t.factor≤2000
 flights:∀ f∈r.flights,f.type∈r.namesOf 116
 many:r.flights.length≤64
 share:0≤share∧share≤1000
def zf0 (k:FuncId):Contract:=fun _ args=>⟨∃ r h,args=[.cptr (zt r),.agg (zZ h)],.fn (.func k) [] [.cptr [.cptr (zt (wC (cellsOf (arg args 0))))],.cptr (zZ (jj (cellsOf (arg args 1))))],none⟩
def zck:Contract:=fun _ args=>⟨∃ r h,args=[.cptr (zt r),.agg (zZ h)]∧ChainOk r h.share,zf 2 wS ((wC (cellsOf (arg args 0))).chain (jj (cellsOf (arg args 1))).share),none⟩
def ItsOk (l:List It):Prop:=l.length≤64∧∀ x∈l,0≤x.2∧x.2≤2000000000
def zar:Contract:=fun _ args=>⟨∃ l,args=[zf 2 wS l]∧ItsOk l,.tup [.int .i64 (zbu (zi w6 (arg args 0))),.int .i64 (levelE (zbu (zi w6 (arg args 0))))],none⟩
def zif:Contract:=fun _ args=>⟨∃ r h,args=[.cptr (zt r),.agg (zZ h)]∧ChainOk r h.share,.int .i64 ((wC (cellsOf (arg args 0))).level levelE (jj (cellsOf (arg args 1)))),none⟩
attribute [go_sem] zf0 zck zar zif
theorem wd {α:Type}[Inhabited α]{l:List α}{i:Nat}(h:i < l.length):el l i∈l:=by rw[yp _ h];exact List.getElem_mem h
theorem zdm {r:Reg}{s:Str}(h:s∈r.namesOf 116):r.typ s∈r.types:=by
 have hlt:zO (r.namesOf 116) s < r.types.length:=by have:=yG h;rwa [show (r.namesOf 116).length=r.types.length from List.length_map _] at this
 exact wd hlt
theorem zdQ {a b c:Int}(ha:0≤a∧a≤1000000000)(hb:0≤b∧b≤2000)(hc:0≤c∧c≤1000):(0≤a * b∧a * b≤2000000000000)∧(0≤a * b * c∧a * b * c≤2000000000000000)∧0≤(a * b * c).tdiv 1000000∧(a * b * c).tdiv 1000000≤2000000000:=by
 have h1:0≤a * b∧a * b≤2000000000000:=⟨Int.mul_nonneg ha.1 hb.1,Int.le_trans (Int.mul_le_mul ha.2 hb.2 hb.1 (by decide)) (by decide)⟩
 have h2:0≤a * b * c∧a * b * c≤2000000000000000:=⟨Int.mul_nonneg h1.1 hc.1,Int.le_trans (Int.mul_le_mul h1.2 hc.2 hc.1 (by decide)) (by decide)⟩
 refine⟨h1,h2,?_⟩
 rw[Int.tdiv_eq_ediv_of_nonneg h2.1]
 omega
theorem zfN {r:Reg}{share:Int}(h:ChainOk r share){f:Fl}(hf:f∈r.flights):0≤r.energyAt share f∧r.energyAt share f≤2000000000:=by
 have:=h.types _ (zdm (h.flights f hf))
 exact(zdQ this.1 this.2 h.share).2.2
theorem zil {r:Reg}{share:Int}(h:ChainOk r share):ItsOk (r.chain share):=by
 refine⟨by unfold Reg.chain;rw[List.length_map];exact h.many,fun x hx=>?_⟩
 unfold Reg.chain at hx
 obtain⟨f,hf,rfl⟩:=List.mem_map.1 hx
 exact zfN h hf
def sumN (l:List It)(n:Nat):Int:=zbu (l.take n)
theorem zdn {l:List It}{i:Nat}(h:i < l.length):sumN l (i+1)=sumN l i+(el l i).2:=by
 unfold sumN zbu
 rw[jm h,List.foldl_append]
 rfl
theorem zkv {l:List It}(hl:ItsOk l):∀ {i:Nat},i≤l.length→0≤sumN l i∧sumN l i≤2000000000 * i
 | 0,_=>⟨Int.le_refl _,Int.le_refl _⟩
 | i+1,h=>by
   have h1:=zkv hl (i:=i) (by omega)
   have h2:=hl.2 _ (wd (show i < l.length by omega))
   rw[zdn (by omega)]
   omega
theorem zgc (l:List It):sumN l l.length=zbu l:=by unfold sumN;rw[List.take_length]
theorem dEq8 (n:Nat):decide ((n:Int)=8)=decide (n=8):=by rw[decide_eq_decide];omega
theorem dEq32 (n:Nat):decide ((n:Int)=32)=decide (n=32):=by rw[decide_eq_decide];omega
theorem dEq64 (n:Nat):decide ((n:Int)=64)=decide (n=64):=by rw[decide_eq_decide];omega
theorem dEq16 (n:Nat):decide ((n:Int)=16)=decide (n=16):=by rw[decide_eq_decide];omega
theorem dEq0 (n:Nat):decide ((n:Int)=0)=decide (n=0):=by rw[decide_eq_decide];omega
theorem dLt3 (n:Nat):decide ((n:Int) < 3)=decide (n < 3):=by rw[decide_eq_decide];omega
def zik (c a:Kd→FuncId):Contract:=fun _ args=>⟨∃ r k e,args=[.cptr (zt r),zfC c a k,.agg (encEv e)]∧RL r∧e.names.length=k.letters.length,
 .int .i64 (jv (wC (cellsOf (arg args 0))) (zI (cellsOf (arg args 2))) (zQ ((cellsOf (arg args 1)).getD 0 .top))),none⟩
attribute [go_sem] zik
def NoUnk (r:Reg)(e:Ev)(ls:List UInt8)(i:Nat):Prop:=∀ j,j < i→(!yU ls j && !yP r e ls j)=false
def zcF (r:Reg)(e:Ev)(ls:List UInt8)(i:Nat):Bool:=(List.range i).any fun j=>yU ls j && yP r e ls j
theorem zj1 (r:Reg)(e:Ev)(ls:List UInt8)(i:Nat):zcF r e ls (i+1)=(zcF r e ls i || (yU ls i && yP r e ls i)):=by
 unfold zcF
 rw[List.range_succ,List.any_append]
 simp
theorem zmc {r:Reg}{e:Ev}{ls:List UInt8}{i:Nat}(hi:i < ls.length)(h:(!yU ls i && !yP r e ls i)=true):jv r e ls=10:=by
 unfold jv
 rw[if_pos]
 rw[List.any_eq_true]
 exact⟨i,List.mem_range.2 hi,h⟩
theorem zmd {r:Reg}{e:Ev}{ls:List UInt8}(h:NoUnk r e ls ls.length):jv r e ls=err (zcF r e ls ls.length) 9:=by
 unfold jv
 rw[if_neg]
 ·rfl
 ·rw[List.any_eq_true]
  rintro⟨j,hj,q⟩
  rw[h j (List.mem_range.1 hj)] at q
  cases q
theorem zjL {r:Reg}{e:Ev}{ls:List UInt8}(h:jv r e ls=0){i:Nat}(hi:i < ls.length):(yU ls i=false→yP r e ls i=true)∧(yU ls i=true→yP r e ls i=false):=by
 unfold jv at h
 split at h
 ·cases h
 ·rename_i h1
  split at h
  ·cases h
  ·rename_i h2
   rw[List.any_eq_true] at h1 h2
   refine⟨fun hf=>?_,fun hf=>?_⟩
   ·cases ht:yP r e ls i with
    | true=>rfl
    | false=>exact absurd ⟨i,List.mem_range.2 hi,by rw[hf,ht];rfl⟩ h1
   ·cases ht:yP r e ls i with
    | false=>rfl
    | true=>exact absurd ⟨i,List.mem_range.2 hi,by rw[hf,ht];rfl⟩ h2
structure ChkPre (r:Reg) (e:Ev) (k:Kd):Prop where
 rl:RL r
 last:LastOk r
 names:e.names.length=k.letters.length
 vals:e.vals.length=k.values
 known:knownE r e k=0
 bd:∀ v∈e.vals,0≤v∧v≤999999999
def qd (k:Kd):Contract:=fun _ args=>⟨∃ r e,args=[.cptr (zt r),.agg (encEv e)]∧ChkPre r e k,.int .i64 (checkK (wC (cellsOf (arg args 0))) (zI (cellsOf (arg args 1))) k),none⟩
attribute [go_sem] qd
theorem we {r:Reg}{e:Ev}{k:Kd}(h:knownE r e k=0){i:Nat}(hi:i < k.letters.length)(hf:yU k.letters i=false):el e.names i∈r.namesOf ((el k.letters i).toNat:Int):=by
 have:=(zjL h hi).1 hf
 unfold yP jQ at this
 rw[if_neg (by rw[hf];simp)] at this
 exact of_decide_eq_true this
structure HistPre (h:Hist):Prop where
 rl:RL h.now
 last:LastOk h.now
 events:h.events.length≤1000000
 counted:h.counted.length≤1000000
def ku:Contract:=fun _ args=>⟨∃ h e,args=[.cptr (zz h),.agg (encEv e)]∧HistPre h∧eventE e=0,.int .i64 (zT (jk (cellsOf (arg args 0))) (zI (cellsOf (arg args 1)))),none⟩
attribute [go_sem] ku
theorem jV {e:Ev}(h:eventE e=0):∃ k,kindOf e.kind=some k∧e.names.length=k.letters.length∧e.vals.length=k.values∧(∀ v∈e.vals,0≤v∧v≤999999999)∧(∀ s∈e.names,nameB s=true)∧e.text=[]∧1≤e.num∧e.num≤1000:=by
 cases hk:kindOf e.kind with
 | none=>exact absurd h (kf hk 0).2
 | some k =>
   unfold eventE at h
   rw[hk] at h
   simp only[wb] at h
   have h1:=y6.1 (h (rng e.num 1 1000) (by simp))
   have h2:=(w4 (by decide)).1 (h (err (decide (e.names.length≠k.letters.length) || decide (e.vals.length≠k.values)) 2) (by simp))
   have h3:=(w4 (by decide)).1 (h (err (decide (e.text≠[])) 1) (by simp))
   simp at h2 h3
   refine⟨k,rfl,h2.1,h2.2,fun v hv=>?_,fun s hs=>?_,h3,h1.1,h1.2⟩
   ·exact y6.1 (h (rng v 0 999999999) (by simp;exact .inr (.inr (.inr (.inl ⟨v,hv,rfl⟩)))))
   ·have:=(w4 (by decide)).1 (h (err (!nameB s) 8) (by simp;exact .inr (.inr (.inl ⟨s,hs,rfl⟩))))
    simpa using this
theorem kZ {s:Str}{k:Kd}(h:kindOf s=some k):s=k.str:=by
 unfold kindOf at h
 have:=List.find?_some h
 exact(of_decide_eq_true this).symm
theorem zhj {s:Str}{k:Kd}(h:kindOf s=some k):decide (s=[117,110,100,111])=decide (k=.undo):=by
 rw[kZ h]
 cases k <;> decide
theorem znc:wL (.sl 2 1 (wa [.str [112,117,98,108,105,115,104],.str [112,97,121]] 1))=[[112,117,98,108,105,115,104],[112,97,121]]:=rfl
theorem wr {h:Hist}{e:Ev}{k:Kd}(c1:e.num=h.events.length+1)(hk:kindOf e.kind=some k)(hu:k≠.undo) :
 zT h e=if el e.vals 0 < h.now.day then 22 else if jv h.now e k.letters≠0 then jv h.now e k.letters else checkK h.now e k:=by
 unfold zT
 rw[if_neg (by simpa using c1),hk]
 cases k <;> first | exact absurd rfl hu | rfl
theorem zg1 {h:Hist}{e:Ev}(c1:e.num=h.events.length+1)(hk:kindOf e.kind=some .undo)(h0:0 < h.counted.length) :
 zT h e=err (decide ((el h.counted (h.counted.length - 1)).kind∈[[112,117,98,108,105,115,104],[112,97,121]])) 21:=by
 unfold zT
 rw[if_neg (by simpa using c1),hk,zbX h0]
 simp only
 congr 1
 rw[show Kd.str .publish=[112,117,98,108,105,115,104] from rfl,show Kd.str .pay=[112,97,121] from rfl]
 generalize (el h.counted (h.counted.length - 1)).kind=x
 by_cases q:x=[112,117,98,108,105,115,104] <;> by_cases q2:x=[112,97,121] <;> simp[q,q2]
theorem zew {a b:Str}:zb4 2 (wa [.str a,.str b] 1):=⟨by omega,fun i hi=>by
 have:i=0∨i=1:=by omega
 rcases this with rfl | rfl <;> rfl⟩
def arrTy (r:Reg):AObj:=.arr r.types.length 3 fun i=>wg (el r.types i)
def arrHo (r:Reg):AObj:=.arr r.houses.length 2 fun i=>zZ (el r.houses i)
def arrFl (r:Reg):AObj:=.arr r.flights.length 5 fun i=>zM (el r.flights i)
def arrMp (r:Reg):AObj:=.arr r.maps.length 3 fun i=>wq (el r.maps i)
def arrOf (r:Reg):AObj:=.arr r.offers.length 4 fun i=>zX (el r.offers i)
def arrCo (r:Reg):AObj:=.arr r.complaints.length 6 fun i=>zP (el r.complaints i)
structure Lay where
 box:Loc
 pre:List V
 n0:Loc
 n1:Loc
 n2:Loc
 n3:Loc
 n4:Loc
 n5:Loc
def Lay.locs (y:Lay):List Loc:=[y.box,y.n0,y.n1,y.n2,y.n3,y.n4,y.n5]
def regCells (y:Lay)(r:Reg):List V :=
 [.int .i64 r.day,.msl y.n0 0 r.types.length,.msl y.n1 0 r.houses.length,.msl y.n2 0 r.flights.length,.msl y.n3 0 r.maps.length,.msl y.n4 0 r.offers.length,.msl y.n5 0 r.complaints.length,.int .i64 r.fund]
structure RegAt (H:Heap) (y:Lay) (r:Reg):Prop where
 box:H y.box=some (.cells (y.pre++regCells y r))
 types:H y.n0=some (arrTy r)
 houses:H y.n1=some (arrHo r)
 flights:H y.n2=some (arrFl r)
 maps:H y.n3=some (arrMp r)
 offers:H y.n4=some (arrOf r)
 complaints:H y.n5=some (arrCo r)
def zx (H:Heap)(y:Lay)(r:Reg):Heap:=fun l =>
 if l=y.box then some (.cells (y.pre++regCells y r)) else if l=y.n0 then some (arrTy r) else if l=y.n1 then some (arrHo r) else if l=y.n2 then some (arrFl r)
 else if l=y.n3 then some (arrMp r) else if l=y.n4 then some (arrOf r) else if l=y.n5 then some (arrCo r) else H l
theorem put_put (H:Heap)(y:Lay)(r r':Reg):zx (zx H y r) y r'=zx H y r':=by
 funext l
 unfold zx
 by_cases e0:l=y.box
 ·simp only[if_pos e0]
 by_cases e1:l=y.n0
 ·simp only[if_neg e0,if_pos e1]
 by_cases e2:l=y.n1
 ·simp only[if_neg e0,if_neg e1,if_pos e2]
 by_cases e3:l=y.n2
 ·simp only[if_neg e0,if_neg e1,if_neg e2,if_pos e3]
 by_cases e4:l=y.n3
 ·simp only[if_neg e0,if_neg e1,if_neg e2,if_neg e3,if_pos e4]
 by_cases e5:l=y.n4
 ·simp only[if_neg e0,if_neg e1,if_neg e2,if_neg e3,if_neg e4,if_pos e5]
 by_cases e6:l=y.n5
 ·simp only[if_neg e0,if_neg e1,if_neg e2,if_neg e3,if_neg e4,if_neg e5,if_pos e6]
 ·simp only[if_neg e0,if_neg e1,if_neg e2,if_neg e3,if_neg e4,if_neg e5,if_neg e6]
structure LayOk (y:Lay) (ck:Nat):Prop where
 nd:y.locs.Nodup
 lo:∀ l∈y.locs,0 < l.1
 hi:∀ l∈y.locs,l.1≤ck
 pre:y.pre=[]∨∃ a b,y.pre=[a,b]
def Lay.off (y:Lay):Nat:=y.pre.length
theorem LayOk.mono {y:Lay}{ck ck':Nat}(h:LayOk y ck)(hc:ck≤ck'):LayOk y ck':=⟨h.nd,h.lo,fun l hl=>Nat.le_trans (h.hi l hl) hc,h.pre⟩
theorem wA {H:Heap}{y:Lay}{ck:Nat}(h:LayOk y ck)(r:Reg):RegAt (zx H y r) y r:=by
 have hn:=h.nd
 simp only[Lay.locs,List.nodup_cons,List.mem_cons,List.not_mem_nil,or_false,not_or] at hn
 obtain⟨⟨a1,a2,a3,a4,a5,a6⟩,⟨b1,b2,b3,b4,b5⟩,⟨c1,c2,c3,c4⟩,⟨d1,d2,d3⟩,⟨e1,e2⟩,f1,_⟩:=hn
 refine⟨?_,?_,?_,?_,?_,?_,?_⟩ <;> unfold zx
 ·rw[if_pos rfl]
 ·rw[if_neg (Ne.symm a1),if_pos rfl]
 ·rw[if_neg (Ne.symm a2),if_neg (Ne.symm b1),if_pos rfl]
 ·rw[if_neg (Ne.symm a3),if_neg (Ne.symm b2),if_neg (Ne.symm c1),if_pos rfl]
 ·rw[if_neg (Ne.symm a4),if_neg (Ne.symm b3),if_neg (Ne.symm c2),if_neg (Ne.symm d1),if_pos rfl]
 ·rw[if_neg (Ne.symm a5),if_neg (Ne.symm b4),if_neg (Ne.symm c3),if_neg (Ne.symm d2),if_neg (Ne.symm e1),if_pos rfl]
 ·rw[if_neg (Ne.symm a6),if_neg (Ne.symm b5),if_neg (Ne.symm c4),if_neg (Ne.symm d3),if_neg (Ne.symm e2),if_neg (Ne.symm f1),if_pos rfl]
theorem z8 {H:Heap}{y:Lay}{r:Reg}{l:Loc}(h:l∉y.locs):zx H y r l=H l:=by
 simp only[Lay.locs,List.mem_cons,List.not_mem_nil,or_false,not_or] at h
 obtain⟨a1,a2,a3,a4,a5,a6,a7⟩:=h
 unfold zx
 rw[if_neg a1,if_neg a2,if_neg a3,if_neg a4,if_neg a5,if_neg a6,if_neg a7]
structure RegLe (S:Heap) (y:Lay) (r:Reg):Prop where
 box:S y.box=some (.cells (y.pre++regCells y r))
 types:∃ o,S y.n0=some o∧ObjLe o (arrTy r)
 houses:∃ o,S y.n1=some o∧ObjLe o (arrHo r)
 flights:∃ o,S y.n2=some o∧ObjLe o (arrFl r)
 maps:∃ o,S y.n3=some o∧ObjLe o (arrMp r)
 offers:∃ o,S y.n4=some o∧ObjLe o (arrOf r)
 complaints:∃ o,S y.n5=some o∧ObjLe o (arrCo r)
def Chg (S H:Heap)(ck:Nat)(ls:List Loc):Prop:=∀ l,l.1≤ck→l∉ls→S l=H l
theorem Chg.refl (H:Heap)(ck:Nat)(ls:List Loc):Chg H H ck ls:=fun l _ _=>rfl
theorem Chg.mem {S H:Heap}{ck:Nat}{ls:List Loc}{l0:Loc}{o:AObj}(h:Chg S H ck ls)(hl:l0∈ls):Chg (updH S l0 o) H ck ls:=fun l h1 h2=>by
 rw[zc (by rintro rfl;exact h2 hl)];exact h l h1 h2
theorem Chg.new {S H:Heap}{ck:Nat}{ls:List Loc}{l0:Loc}{o:AObj}(h:Chg S H ck ls)(hl:ck < l0.1):Chg (updH S l0 o) H ck ls:=fun l h1 h2=>by
 rw[zc (by rintro rfl;omega)];exact h l h1 h2
theorem kL {S H:Heap}{y:Lay}{r:Reg}{ck:Nat}(h:RegLe S y r)(hr:Chg S H ck y.locs)(hf:∀ l,ck < l.1→H l=none):zy S (zx H y r):=by
 intro l o ho
 by_cases hl:l∈y.locs
 ·unfold zx at ho
  simp only[Lay.locs,List.mem_cons,List.not_mem_nil,or_false] at hl
  split at ho
  ·rename_i e;subst e;cases ho;exact⟨_,h.box,ObjLe.refl _⟩
  split at ho
  ·rename_i e;subst e;cases ho;exact h.types
  split at ho
  ·rename_i e;subst e;cases ho;exact h.houses
  split at ho
  ·rename_i e;subst e;cases ho;exact h.flights
  split at ho
  ·rename_i e;subst e;cases ho;exact h.maps
  split at ho
  ·rename_i e;subst e;cases ho;exact h.offers
  split at ho
  ·rename_i e;subst e;cases ho;exact h.complaints
  ·rename_i n1 n2 n3 n4 n5 n6 n7
   rcases hl with q | q | q | q | q | q | q
   ·exact absurd q n1
   ·exact absurd q n2
   ·exact absurd q n3
   ·exact absurd q n4
   ·exact absurd q n5
   ·exact absurd q n6
   ·exact absurd q n7
 ·rw[z8 hl] at ho
  refine⟨o,?_,ObjLe.refl o⟩
  by_cases q:l.1≤ck
  ·rw[hr l q hl];exact ho
  ·rw[hf l (by omega)] at ho;cases ho
theorem yM {l:Loc}{ck c d:Nat}(h:l.1≤ck)(hc:ck < c):(l=(c,d))=False:=eq_false (by rintro rfl;simp at h;omega)
theorem yL {l:Loc}{ck c d:Nat}(h:l.1≤ck)(hc:ck < c):((c,d)=l)=False:=eq_false (by rintro rfl;simp at h;omega)
theorem wK {α:Type}[Inhabited α]{f:α→List V}{sz n:Nat}{g:Nat→List V}{l:List α}{x:α}(hn:n=l.length+1)(h:∀ j,j < l.length+1→f (el (l++[x]) j)=g j):ObjLe (.arr n sz g) (.arr (l++[x]).length sz fun i=>f (el (l++[x]) i)) :=
 ⟨by rw[hn,List.length_append];rfl,rfl,fun i hi=>h i (by omega)⟩
theorem kK {S H:Heap}{y:Lay}{r r':Reg}{ck:Nat}(hy:LayOk y ck)(hat:RegAt H y r)(hf:∀ l,ck < l.1→H l=none)(hc:Chg S H ck [y.box,y.n0])(hb:S y.box=some (.cells (y.pre++regCells y r')))(ht:∃ o,S y.n0=some o∧ObjLe o (arrTy r'))(e_houses:r'.houses=r.houses)(e_flights:r'.flights=r.flights)(jz:r'.maps=r.maps)(e_offers:r'.offers=r.offers)(e_complaints:r'.complaints=r.complaints):zy S (zx H y r'):=by
 have nd:=hy.nd
 simp only[Lay.locs,List.nodup_cons,List.mem_cons,List.not_mem_nil,or_false,not_or] at nd
 obtain⟨⟨a1,a2,a3,a4,a5,a6⟩,⟨b1,b2,b3,b4,b5⟩,⟨c1,c2,c3,c4⟩,⟨d1,d2,d3⟩,⟨e1,e2⟩,f1,_⟩:=nd
 refine kL (ck:=ck) ⟨hb,ht,?_,?_,?_,?_,?_⟩ (fun l h1 h2=>hc l h1 fun h3=>h2 ?_) hf
 ·exact⟨_,(hc y.n1 (hy.hi _ (by simp[Lay.locs])) (by simp only[List.mem_cons,List.not_mem_nil,or_false,not_or];first | exact⟨Ne.symm ‹_›,‹_›⟩ | exact⟨Ne.symm ‹_›,Ne.symm ‹_›⟩ | exact Ne.symm ‹_›)).trans hat.houses,by unfold arrHo;rw[e_houses];exact ObjLe.refl _⟩
 ·exact⟨_,(hc y.n2 (hy.hi _ (by simp[Lay.locs])) (by simp only[List.mem_cons,List.not_mem_nil,or_false,not_or];first | exact⟨Ne.symm ‹_›,‹_›⟩ | exact⟨Ne.symm ‹_›,Ne.symm ‹_›⟩ | exact Ne.symm ‹_›)).trans hat.flights,by unfold arrFl;rw[e_flights];exact ObjLe.refl _⟩
 ·exact⟨_,(hc y.n3 (hy.hi _ (by simp[Lay.locs])) (by simp only[List.mem_cons,List.not_mem_nil,or_false,not_or];first | exact⟨Ne.symm ‹_›,‹_›⟩ | exact⟨Ne.symm ‹_›,Ne.symm ‹_›⟩ | exact Ne.symm ‹_›)).trans hat.maps,by unfold arrMp;rw[jz];exact ObjLe.refl _⟩
 ·exact⟨_,(hc y.n4 (hy.hi _ (by simp[Lay.locs])) (by simp only[List.mem_cons,List.not_mem_nil,or_false,not_or];first | exact⟨Ne.symm ‹_›,‹_›⟩ | exact⟨Ne.symm ‹_›,Ne.symm ‹_›⟩ | exact Ne.symm ‹_›)).trans hat.offers,by unfold arrOf;rw[e_offers];exact ObjLe.refl _⟩
 ·exact⟨_,(hc y.n5 (hy.hi _ (by simp[Lay.locs])) (by simp only[List.mem_cons,List.not_mem_nil,or_false,not_or];first | exact⟨Ne.symm ‹_›,‹_›⟩ | exact⟨Ne.symm ‹_›,Ne.symm ‹_›⟩ | exact Ne.symm ‹_›)).trans hat.complaints,by unfold arrCo;rw[e_complaints];exact ObjLe.refl _⟩
 ·simp only[List.mem_cons,List.not_mem_nil,or_false] at h3
  simp only[Lay.locs,List.mem_cons,List.not_mem_nil,or_false]
  rcases h3 with h3 | h3 <;> simp[h3]
theorem zcM {S H:Heap}{y:Lay}{r r':Reg}{ck:Nat}(hy:LayOk y ck)(hat:RegAt H y r)(hf:∀ l,ck < l.1→H l=none)(hc:Chg S H ck [y.box,y.n1])(hb:S y.box=some (.cells (y.pre++regCells y r')))(ht:∃ o,S y.n1=some o∧ObjLe o (arrHo r'))(e_types:r'.types=r.types)(e_flights:r'.flights=r.flights)(jz:r'.maps=r.maps)(e_offers:r'.offers=r.offers)(e_complaints:r'.complaints=r.complaints):zy S (zx H y r'):=by
 have nd:=hy.nd
 simp only[Lay.locs,List.nodup_cons,List.mem_cons,List.not_mem_nil,or_false,not_or] at nd
 obtain⟨⟨a1,a2,a3,a4,a5,a6⟩,⟨b1,b2,b3,b4,b5⟩,⟨c1,c2,c3,c4⟩,⟨d1,d2,d3⟩,⟨e1,e2⟩,f1,_⟩:=nd
 refine kL (ck:=ck) ⟨hb,?_,ht,?_,?_,?_,?_⟩ (fun l h1 h2=>hc l h1 fun h3=>h2 ?_) hf
 ·exact⟨_,(hc y.n0 (hy.hi _ (by simp[Lay.locs])) (by simp only[List.mem_cons,List.not_mem_nil,or_false,not_or];first | exact⟨Ne.symm ‹_›,‹_›⟩ | exact⟨Ne.symm ‹_›,Ne.symm ‹_›⟩ | exact Ne.symm ‹_›)).trans hat.types,by unfold arrTy;rw[e_types];exact ObjLe.refl _⟩
 ·exact⟨_,(hc y.n2 (hy.hi _ (by simp[Lay.locs])) (by simp only[List.mem_cons,List.not_mem_nil,or_false,not_or];first | exact⟨Ne.symm ‹_›,‹_›⟩ | exact⟨Ne.symm ‹_›,Ne.symm ‹_›⟩ | exact Ne.symm ‹_›)).trans hat.flights,by unfold arrFl;rw[e_flights];exact ObjLe.refl _⟩
 ·exact⟨_,(hc y.n3 (hy.hi _ (by simp[Lay.locs])) (by simp only[List.mem_cons,List.not_mem_nil,or_false,not_or];first | exact⟨Ne.symm ‹_›,‹_›⟩ | exact⟨Ne.symm ‹_›,Ne.symm ‹_›⟩ | exact Ne.symm ‹_›)).trans hat.maps,by unfold arrMp;rw[jz];exact ObjLe.refl _⟩
 ·exact⟨_,(hc y.n4 (hy.hi _ (by simp[Lay.locs])) (by simp only[List.mem_cons,List.not_mem_nil,or_false,not_or];first | exact⟨Ne.symm ‹_›,‹_›⟩ | exact⟨Ne.symm ‹_›,Ne.symm ‹_›⟩ | exact Ne.symm ‹_›)).trans hat.offers,by unfold arrOf;rw[e_offers];exact ObjLe.refl _⟩
 ·exact⟨_,(hc y.n5 (hy.hi _ (by simp[Lay.locs])) (by simp only[List.mem_cons,List.not_mem_nil,or_false,not_or];first | exact⟨Ne.symm ‹_›,‹_›⟩ | exact⟨Ne.symm ‹_›,Ne.symm ‹_›⟩ | exact Ne.symm ‹_›)).trans hat.complaints,by unfold arrCo;rw[e_complaints];exact ObjLe.refl _⟩
 ·simp only[List.mem_cons,List.not_mem_nil,or_false] at h3
  simp only[Lay.locs,List.mem_cons,List.not_mem_nil,or_false]
  rcases h3 with h3 | h3 <;> simp[h3]
theorem jJ {S H:Heap}{y:Lay}{r r':Reg}{ck:Nat}(hy:LayOk y ck)(hat:RegAt H y r)(hf:∀ l,ck < l.1→H l=none)(hc:Chg S H ck [y.box,y.n2])(hb:S y.box=some (.cells (y.pre++regCells y r')))(ht:∃ o,S y.n2=some o∧ObjLe o (arrFl r'))(e_types:r'.types=r.types)(e_houses:r'.houses=r.houses)(jz:r'.maps=r.maps)(e_offers:r'.offers=r.offers)(e_complaints:r'.complaints=r.complaints):zy S (zx H y r'):=by
 have nd:=hy.nd
 simp only[Lay.locs,List.nodup_cons,List.mem_cons,List.not_mem_nil,or_false,not_or] at nd
 obtain⟨⟨a1,a2,a3,a4,a5,a6⟩,⟨b1,b2,b3,b4,b5⟩,⟨c1,c2,c3,c4⟩,⟨d1,d2,d3⟩,⟨e1,e2⟩,f1,_⟩:=nd
 refine kL (ck:=ck) ⟨hb,?_,?_,ht,?_,?_,?_⟩ (fun l h1 h2=>hc l h1 fun h3=>h2 ?_) hf
 ·exact⟨_,(hc y.n0 (hy.hi _ (by simp[Lay.locs])) (by simp only[List.mem_cons,List.not_mem_nil,or_false,not_or];first | exact⟨Ne.symm ‹_›,‹_›⟩ | exact⟨Ne.symm ‹_›,Ne.symm ‹_›⟩ | exact Ne.symm ‹_›)).trans hat.types,by unfold arrTy;rw[e_types];exact ObjLe.refl _⟩
 ·exact⟨_,(hc y.n1 (hy.hi _ (by simp[Lay.locs])) (by simp only[List.mem_cons,List.not_mem_nil,or_false,not_or];first | exact⟨Ne.symm ‹_›,‹_›⟩ | exact⟨Ne.symm ‹_›,Ne.symm ‹_›⟩ | exact Ne.symm ‹_›)).trans hat.houses,by unfold arrHo;rw[e_houses];exact ObjLe.refl _⟩
 ·exact⟨_,(hc y.n3 (hy.hi _ (by simp[Lay.locs])) (by simp only[List.mem_cons,List.not_mem_nil,or_false,not_or];first | exact⟨Ne.symm ‹_›,‹_›⟩ | exact⟨Ne.symm ‹_›,Ne.symm ‹_›⟩ | exact Ne.symm ‹_›)).trans hat.maps,by unfold arrMp;rw[jz];exact ObjLe.refl _⟩
 ·exact⟨_,(hc y.n4 (hy.hi _ (by simp[Lay.locs])) (by simp only[List.mem_cons,List.not_mem_nil,or_false,not_or];first | exact⟨Ne.symm ‹_›,‹_›⟩ | exact⟨Ne.symm ‹_›,Ne.symm ‹_›⟩ | exact Ne.symm ‹_›)).trans hat.offers,by unfold arrOf;rw[e_offers];exact ObjLe.refl _⟩
 ·exact⟨_,(hc y.n5 (hy.hi _ (by simp[Lay.locs])) (by simp only[List.mem_cons,List.not_mem_nil,or_false,not_or];first | exact⟨Ne.symm ‹_›,‹_›⟩ | exact⟨Ne.symm ‹_›,Ne.symm ‹_›⟩ | exact Ne.symm ‹_›)).trans hat.complaints,by unfold arrCo;rw[e_complaints];exact ObjLe.refl _⟩
 ·simp only[List.mem_cons,List.not_mem_nil,or_false] at h3
  simp only[Lay.locs,List.mem_cons,List.not_mem_nil,or_false]
  rcases h3 with h3 | h3 <;> simp[h3]
theorem zhK {S H:Heap}{y:Lay}{r r':Reg}{ck:Nat}(hy:LayOk y ck)(hat:RegAt H y r)(hf:∀ l,ck < l.1→H l=none)(hc:Chg S H ck [y.box,y.n3])(hb:S y.box=some (.cells (y.pre++regCells y r')))(ht:∃ o,S y.n3=some o∧ObjLe o (arrMp r'))(e_types:r'.types=r.types)(e_houses:r'.houses=r.houses)(e_flights:r'.flights=r.flights)(e_offers:r'.offers=r.offers)(e_complaints:r'.complaints=r.complaints):zy S (zx H y r'):=by
 have nd:=hy.nd
 simp only[Lay.locs,List.nodup_cons,List.mem_cons,List.not_mem_nil,or_false,not_or] at nd
 obtain⟨⟨a1,a2,a3,a4,a5,a6⟩,⟨b1,b2,b3,b4,b5⟩,⟨c1,c2,c3,c4⟩,⟨d1,d2,d3⟩,⟨e1,e2⟩,f1,_⟩:=nd
 refine kL (ck:=ck) ⟨hb,?_,?_,?_,ht,?_,?_⟩ (fun l h1 h2=>hc l h1 fun h3=>h2 ?_) hf
 ·exact⟨_,(hc y.n0 (hy.hi _ (by simp[Lay.locs])) (by simp only[List.mem_cons,List.not_mem_nil,or_false,not_or];first | exact⟨Ne.symm ‹_›,‹_›⟩ | exact⟨Ne.symm ‹_›,Ne.symm ‹_›⟩ | exact Ne.symm ‹_›)).trans hat.types,by unfold arrTy;rw[e_types];exact ObjLe.refl _⟩
 ·exact⟨_,(hc y.n1 (hy.hi _ (by simp[Lay.locs])) (by simp only[List.mem_cons,List.not_mem_nil,or_false,not_or];first | exact⟨Ne.symm ‹_›,‹_›⟩ | exact⟨Ne.symm ‹_›,Ne.symm ‹_›⟩ | exact Ne.symm ‹_›)).trans hat.houses,by unfold arrHo;rw[e_houses];exact ObjLe.refl _⟩
 ·exact⟨_,(hc y.n2 (hy.hi _ (by simp[Lay.locs])) (by simp only[List.mem_cons,List.not_mem_nil,or_false,not_or];first | exact⟨Ne.symm ‹_›,‹_›⟩ | exact⟨Ne.symm ‹_›,Ne.symm ‹_›⟩ | exact Ne.symm ‹_›)).trans hat.flights,by unfold arrFl;rw[e_flights];exact ObjLe.refl _⟩
 ·exact⟨_,(hc y.n4 (hy.hi _ (by simp[Lay.locs])) (by simp only[List.mem_cons,List.not_mem_nil,or_false,not_or];first | exact⟨Ne.symm ‹_›,‹_›⟩ | exact⟨Ne.symm ‹_›,Ne.symm ‹_›⟩ | exact Ne.symm ‹_›)).trans hat.offers,by unfold arrOf;rw[e_offers];exact ObjLe.refl _⟩
 ·exact⟨_,(hc y.n5 (hy.hi _ (by simp[Lay.locs])) (by simp only[List.mem_cons,List.not_mem_nil,or_false,not_or];first | exact⟨Ne.symm ‹_›,‹_›⟩ | exact⟨Ne.symm ‹_›,Ne.symm ‹_›⟩ | exact Ne.symm ‹_›)).trans hat.complaints,by unfold arrCo;rw[e_complaints];exact ObjLe.refl _⟩
 ·simp only[List.mem_cons,List.not_mem_nil,or_false] at h3
  simp only[Lay.locs,List.mem_cons,List.not_mem_nil,or_false]
  rcases h3 with h3 | h3 <;> simp[h3]
theorem qE {S H:Heap}{y:Lay}{r r':Reg}{ck:Nat}(hy:LayOk y ck)(hat:RegAt H y r)(hf:∀ l,ck < l.1→H l=none)(hc:Chg S H ck [y.box,y.n4])(hb:S y.box=some (.cells (y.pre++regCells y r')))(ht:∃ o,S y.n4=some o∧ObjLe o (arrOf r'))(e_types:r'.types=r.types)(e_houses:r'.houses=r.houses)(e_flights:r'.flights=r.flights)(jz:r'.maps=r.maps)(e_complaints:r'.complaints=r.complaints):zy S (zx H y r'):=by
 have nd:=hy.nd
 simp only[Lay.locs,List.nodup_cons,List.mem_cons,List.not_mem_nil,or_false,not_or] at nd
 obtain⟨⟨a1,a2,a3,a4,a5,a6⟩,⟨b1,b2,b3,b4,b5⟩,⟨c1,c2,c3,c4⟩,⟨d1,d2,d3⟩,⟨e1,e2⟩,f1,_⟩:=nd
 refine kL (ck:=ck) ⟨hb,?_,?_,?_,?_,ht,?_⟩ (fun l h1 h2=>hc l h1 fun h3=>h2 ?_) hf
 ·exact⟨_,(hc y.n0 (hy.hi _ (by simp[Lay.locs])) (by simp only[List.mem_cons,List.not_mem_nil,or_false,not_or];first | exact⟨Ne.symm ‹_›,‹_›⟩ | exact⟨Ne.symm ‹_›,Ne.symm ‹_›⟩ | exact Ne.symm ‹_›)).trans hat.types,by unfold arrTy;rw[e_types];exact ObjLe.refl _⟩
 ·exact⟨_,(hc y.n1 (hy.hi _ (by simp[Lay.locs])) (by simp only[List.mem_cons,List.not_mem_nil,or_false,not_or];first | exact⟨Ne.symm ‹_›,‹_›⟩ | exact⟨Ne.symm ‹_›,Ne.symm ‹_›⟩ | exact Ne.symm ‹_›)).trans hat.houses,by unfold arrHo;rw[e_houses];exact ObjLe.refl _⟩
 ·exact⟨_,(hc y.n2 (hy.hi _ (by simp[Lay.locs])) (by simp only[List.mem_cons,List.not_mem_nil,or_false,not_or];first | exact⟨Ne.symm ‹_›,‹_›⟩ | exact⟨Ne.symm ‹_›,Ne.symm ‹_›⟩ | exact Ne.symm ‹_›)).trans hat.flights,by unfold arrFl;rw[e_flights];exact ObjLe.refl _⟩
 ·exact⟨_,(hc y.n3 (hy.hi _ (by simp[Lay.locs])) (by simp only[List.mem_cons,List.not_mem_nil,or_false,not_or];first | exact⟨Ne.symm ‹_›,‹_›⟩ | exact⟨Ne.symm ‹_›,Ne.symm ‹_›⟩ | exact Ne.symm ‹_›)).trans hat.maps,by unfold arrMp;rw[jz];exact ObjLe.refl _⟩
 ·exact⟨_,(hc y.n5 (hy.hi _ (by simp[Lay.locs])) (by simp only[List.mem_cons,List.not_mem_nil,or_false,not_or];first | exact⟨Ne.symm ‹_›,‹_›⟩ | exact⟨Ne.symm ‹_›,Ne.symm ‹_›⟩ | exact Ne.symm ‹_›)).trans hat.complaints,by unfold arrCo;rw[e_complaints];exact ObjLe.refl _⟩
 ·simp only[List.mem_cons,List.not_mem_nil,or_false] at h3
  simp only[Lay.locs,List.mem_cons,List.not_mem_nil,or_false]
  rcases h3 with h3 | h3 <;> simp[h3]
theorem yv {S H:Heap}{y:Lay}{r r':Reg}{ck:Nat}(hy:LayOk y ck)(hat:RegAt H y r)(hf:∀ l,ck < l.1→H l=none)(hc:Chg S H ck [y.box,y.n5])(hb:S y.box=some (.cells (y.pre++regCells y r')))(ht:∃ o,S y.n5=some o∧ObjLe o (arrCo r'))(e_types:r'.types=r.types)(e_houses:r'.houses=r.houses)(e_flights:r'.flights=r.flights)(jz:r'.maps=r.maps)(e_offers:r'.offers=r.offers):zy S (zx H y r'):=by
 have nd:=hy.nd
 simp only[Lay.locs,List.nodup_cons,List.mem_cons,List.not_mem_nil,or_false,not_or] at nd
 obtain⟨⟨a1,a2,a3,a4,a5,a6⟩,⟨b1,b2,b3,b4,b5⟩,⟨c1,c2,c3,c4⟩,⟨d1,d2,d3⟩,⟨e1,e2⟩,f1,_⟩:=nd
 refine kL (ck:=ck) ⟨hb,?_,?_,?_,?_,?_,ht⟩ (fun l h1 h2=>hc l h1 fun h3=>h2 ?_) hf
 ·exact⟨_,(hc y.n0 (hy.hi _ (by simp[Lay.locs])) (by simp only[List.mem_cons,List.not_mem_nil,or_false,not_or];first | exact⟨Ne.symm ‹_›,‹_›⟩ | exact⟨Ne.symm ‹_›,Ne.symm ‹_›⟩ | exact Ne.symm ‹_›)).trans hat.types,by unfold arrTy;rw[e_types];exact ObjLe.refl _⟩
 ·exact⟨_,(hc y.n1 (hy.hi _ (by simp[Lay.locs])) (by simp only[List.mem_cons,List.not_mem_nil,or_false,not_or];first | exact⟨Ne.symm ‹_›,‹_›⟩ | exact⟨Ne.symm ‹_›,Ne.symm ‹_›⟩ | exact Ne.symm ‹_›)).trans hat.houses,by unfold arrHo;rw[e_houses];exact ObjLe.refl _⟩
 ·exact⟨_,(hc y.n2 (hy.hi _ (by simp[Lay.locs])) (by simp only[List.mem_cons,List.not_mem_nil,or_false,not_or];first | exact⟨Ne.symm ‹_›,‹_›⟩ | exact⟨Ne.symm ‹_›,Ne.symm ‹_›⟩ | exact Ne.symm ‹_›)).trans hat.flights,by unfold arrFl;rw[e_flights];exact ObjLe.refl _⟩
 ·exact⟨_,(hc y.n3 (hy.hi _ (by simp[Lay.locs])) (by simp only[List.mem_cons,List.not_mem_nil,or_false,not_or];first | exact⟨Ne.symm ‹_›,‹_›⟩ | exact⟨Ne.symm ‹_›,Ne.symm ‹_›⟩ | exact Ne.symm ‹_›)).trans hat.maps,by unfold arrMp;rw[jz];exact ObjLe.refl _⟩
 ·exact⟨_,(hc y.n4 (hy.hi _ (by simp[Lay.locs])) (by simp only[List.mem_cons,List.not_mem_nil,or_false,not_or];first | exact⟨Ne.symm ‹_›,‹_›⟩ | exact⟨Ne.symm ‹_›,Ne.symm ‹_›⟩ | exact Ne.symm ‹_›)).trans hat.offers,by unfold arrOf;rw[e_offers];exact ObjLe.refl _⟩
 ·simp only[List.mem_cons,List.not_mem_nil,or_false] at h3
  simp only[Lay.locs,List.mem_cons,List.not_mem_nil,or_false]
  rcases h3 with h3 | h3 <;> simp[h3]
theorem zle {S H:Heap}{y:Lay}{r r':Reg}{ck:Nat}(hy:LayOk y ck)(hat:RegAt H y r)(hf:∀ l,ck < l.1→H l=none)(hc:Chg S H ck [y.box])(hb:S y.box=some (.cells (y.pre++regCells y r')))(e_types:r'.types=r.types)(e_houses:r'.houses=r.houses)(e_flights:r'.flights=r.flights)(jz:r'.maps=r.maps)(e_offers:r'.offers=r.offers)(e_complaints:r'.complaints=r.complaints):zy S (zx H y r'):=by
 have nd:=hy.nd
 simp only[Lay.locs,List.nodup_cons,List.mem_cons,List.not_mem_nil,or_false,not_or] at nd
 obtain⟨⟨a1,a2,a3,a4,a5,a6⟩,⟨b1,b2,b3,b4,b5⟩,⟨c1,c2,c3,c4⟩,⟨d1,d2,d3⟩,⟨e1,e2⟩,f1,_⟩:=nd
 refine kL (ck:=ck) ⟨hb,?_,?_,?_,?_,?_,?_⟩ (fun l h1 h2=>hc l h1 fun h3=>h2 ?_) hf
 ·exact⟨_,(hc y.n0 (hy.hi _ (by simp[Lay.locs])) (by simp only[List.mem_cons,List.not_mem_nil,or_false,not_or];first | exact⟨Ne.symm ‹_›,‹_›⟩ | exact⟨Ne.symm ‹_›,Ne.symm ‹_›⟩ | exact Ne.symm ‹_›)).trans hat.types,by unfold arrTy;rw[e_types];exact ObjLe.refl _⟩
 ·exact⟨_,(hc y.n1 (hy.hi _ (by simp[Lay.locs])) (by simp only[List.mem_cons,List.not_mem_nil,or_false,not_or];first | exact⟨Ne.symm ‹_›,‹_›⟩ | exact⟨Ne.symm ‹_›,Ne.symm ‹_›⟩ | exact Ne.symm ‹_›)).trans hat.houses,by unfold arrHo;rw[e_houses];exact ObjLe.refl _⟩
 ·exact⟨_,(hc y.n2 (hy.hi _ (by simp[Lay.locs])) (by simp only[List.mem_cons,List.not_mem_nil,or_false,not_or];first | exact⟨Ne.symm ‹_›,‹_›⟩ | exact⟨Ne.symm ‹_›,Ne.symm ‹_›⟩ | exact Ne.symm ‹_›)).trans hat.flights,by unfold arrFl;rw[e_flights];exact ObjLe.refl _⟩
 ·exact⟨_,(hc y.n3 (hy.hi _ (by simp[Lay.locs])) (by simp only[List.mem_cons,List.not_mem_nil,or_false,not_or];first | exact⟨Ne.symm ‹_›,‹_›⟩ | exact⟨Ne.symm ‹_›,Ne.symm ‹_›⟩ | exact Ne.symm ‹_›)).trans hat.maps,by unfold arrMp;rw[jz];exact ObjLe.refl _⟩
 ·exact⟨_,(hc y.n4 (hy.hi _ (by simp[Lay.locs])) (by simp only[List.mem_cons,List.not_mem_nil,or_false,not_or];first | exact⟨Ne.symm ‹_›,‹_›⟩ | exact⟨Ne.symm ‹_›,Ne.symm ‹_›⟩ | exact Ne.symm ‹_›)).trans hat.offers,by unfold arrOf;rw[e_offers];exact ObjLe.refl _⟩
 ·exact⟨_,(hc y.n5 (hy.hi _ (by simp[Lay.locs])) (by simp only[List.mem_cons,List.not_mem_nil,or_false,not_or];first | exact⟨Ne.symm ‹_›,‹_›⟩ | exact⟨Ne.symm ‹_›,Ne.symm ‹_›⟩ | exact Ne.symm ‹_›)).trans hat.complaints,by unfold arrCo;rw[e_complaints];exact ObjLe.refl _⟩
 ·simp only[List.mem_cons,List.not_mem_nil,or_false] at h3
  simp only[Lay.locs,List.mem_cons,List.not_mem_nil,or_false]
  simp[h3]
theorem jy {α:Type}[Inhabited α](l:List α)(p:Nat)(h:α→α){i:Nat}(hi:i < l.length):el (l.modify p h) i=if i=p then h (el l i) else el l i:=by
 have h1:i < (l.modify p h).length:=by rw[List.length_modify];exact hi
 rw[yp _ h1,yp _ hi,List.getElem_modify]
 by_cases q:p=i
 ·rw[if_pos q,if_pos q.symm]
 ·rw[if_neg q,if_neg fun e=>q e.symm]
theorem yO {α:Type}[Inhabited α]{f:α→List V}{sz:Nat}{l:List α}{p:Nat}{h:α→α}{g:Nat→List V}(hg:∀ i,i < l.length→g i=if i=p then f (h (el l i)) else f (el l i)) :
 ObjLe (.arr l.length sz g) (.arr (l.modify p h).length sz fun i=>f (el (l.modify p h) i)) :=
 ⟨List.length_modify .. |>.symm,rfl,fun i hi=>by
  show f (el (l.modify p h) i)=g i
  rw[jy l p h hi,hg i hi]
  split <;> rfl⟩
theorem zU {α:Type}{l:List α}{f:α→Str}{s:Str}(h:s∈l.map f):zO (l.map f) s < l.length:=by
 have:=yG h
 rwa [List.length_map] at this
end Go.Fly.Off
end
