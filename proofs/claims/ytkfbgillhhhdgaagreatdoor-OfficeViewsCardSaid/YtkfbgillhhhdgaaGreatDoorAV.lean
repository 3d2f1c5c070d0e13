/- Part of a proof. No conditions. -/
import Derived.Test.YtkfbgillhhhdgaaGreatDoorAT
import Derived.Test.YtkfbgillhhhdgaaGreatDoorAU
set_option linter.unusedSimpArgs false
set_option linter.unusedVariables false
section
namespace Go.Fly.Off
open Go
def HeB (r:Reg):Prop:=∀ f∈r.flights,-1≤f.heard∧f.heard≤1000000000
theorem Acc.heb {lv:Int→Int}{r:Reg}{e:Ev}{k:Kd}(h:Acc r e k)(hb:HeB r):HeB (w9 lv r e):=by
 rw[wJ h.kind]
 have hc:=h.check
 cases k
 case flight =>
  intro c hc
  rcases List.mem_append.1 (show c∈r.flights++[_] from hc) with q | q
  ·exact hb c q
  ·rw[List.mem_singleton.1 q]
   exact⟨by show (-1:Int)≤-1;decide,by show (-1:Int)≤1000000000;decide⟩
 case match_ =>
  simp only[checkK,wb,List.mem_cons,List.not_mem_nil,or_false,forall_eq_or_imp,forall_eq,y6] at hc
  have hv:0≤el e.vals 1∧el e.vals 1≤1000000000:=hc.1
  intro c hc
  obtain⟨y,hy,q⟩:=ya (show c∈r.flights.modify _ _ from hc)
  rcases q with rfl | rfl
  ·exact hb _ hy
  ·exact⟨by show -1≤el e.vals 1;omega,hv.2⟩
 case undo=>exact absurd rfl h.real
 all_goals exact hb
theorem Cnt.heb {lv:Int→Int}{l:List Ev}(h:Cnt lv l):∀ {i:Nat},i≤l.length→HeB (made lv (l.take i))
 | 0,_=>by
   rw[List.take_zero]
   intro c hc
   cases hc
 | i+1,hi=>by
   rw[vt lv l (by omega)]
   obtain⟨k,hk⟩:=h i (by omega)
   exact hk.heb (h.heb (by omega))
theorem zeO (l:List Ev):HeB (replayed levelE l).1.now:=by
 have q:=(yS (lv:=levelE) l).1
 rw[q.now]
 have:=q.cnt.heb (Nat.le_refl (replayed levelE l).1.counted.length)
 rwa [List.take_length] at this
def zaX (l:List Fl):Int:=l.foldl (fun a x=>a+x.heard) 0
def zez (l:List Fl)(n:Nat):Int:=zaX (l.take n)
theorem zey {l:List Fl}{i:Nat}(h:i < l.length):zez l (i+1)=zez l i+(el l i).heard:=by
 unfold zez zaX
 rw[jm h,List.foldl_append]
 rfl
theorem zhq (l:List Fl):zez l l.length=zaX l:=by unfold zez;rw[List.take_length]
theorem zgd {l:List Fl}(hl:∀ f∈l,-1≤f.heard∧f.heard≤1000000000):∀ {i:Nat},i≤l.length→-(i:Int)≤zez l i∧zez l i≤1000000000 * i
 | 0,_=>⟨Int.le_refl _,Int.le_refl _⟩
 | i+1,h=>by
   have h1:=zgd hl (i:=i) (by omega)
   have h2:=hl _ (wd (show i < l.length by omega))
   rw[zey (by omega)]
   omega
def ziu:Contract:=fun _ args=>⟨∃ r s,args=[.cptr (zt r),.str s]∧RL r∧HeB r,.tup [.int .i64 ((wC (cellsOf (arg args 0))).matched (zQ (arg args 1))).length,.int .i64 (zaX ((wC (cellsOf (arg args 0))).matched (zQ (arg args 1))))],none⟩
def zod (l:List Ev)(s:Str):Int×Int×Int :=
 if jC l 116 s≠0 then (0,0,jC l 116 s) else (((replayed levelE l).1.now.matched s).length,zaX ((replayed levelE l).1.now.matched s),0)
def zof:Contract:=fun _ args=>⟨∃ l s,args=[zf 5 encEv l,.str s]∧l.length≤1000000∧(∀ e∈l,EvB e),
 .tup [.int .i64 (zod (zi zI (arg args 0)) (zQ (arg args 1))).1,.int .i64 (zod (zi zI (arg args 0)) (zQ (arg args 1))).2.1,.int .i64 (zod (zi zI (arg args 0)) (zQ (arg args 1))).2.2],none⟩
attribute [go_sem] ziu zof
def btN (r:Reg)(share:Int)(j:Nat):Nat→Int
 | 0=>0
 | n+1=>if zO (r.namesOf 116) (el r.flights n).type=j then btN r share j n+r.energyAt share (el r.flights n) else btN r share j n
def zh7 (r:Reg)(share:Int)(n j:Nat):It:=((el r.types j).name,btN r share j n)
def Reg.byTypes (r:Reg)(share:Int):List It:=(List.range r.types.length).map (zh7 r share r.flights.length)
theorem bt_bd {r:Reg}{share:Int}(h:ChainOk r share){j:Nat}:∀ {n:Nat},n≤r.flights.length→0≤btN r share j n∧btN r share j n≤2000000000 * n
 | 0,_=>⟨Int.le_refl _,Int.le_refl _⟩
 | n+1,hn=>by
   have h1:=bt_bd h (j:=j) (n:=n) (by omega)
   have h2:=zfN h (wd (show n < r.flights.length by omega))
   unfold btN
   split <;> omega
theorem ziL {α:Type}[Inhabited α]{f:Nat→α}{n i:Nat}(h:i < n):el ((List.range n).map f) i=f i:=by
 rw[yp _ (by simpa using h)]
 simp
def btE (l:List Ev)(s:Str):List It×Int :=
 if jC l 104 s≠0 then ([],jC l 104 s) else ((replayed levelE l).1.now.byTypes ((replayed levelE l).1.now.house s).share,0)
def btQC:Contract:=fun _ args=>⟨∃ l s,args=[zf 5 encEv l,.str s]∧l.length≤1000000∧(∀ e∈l,EvB e),
 .tup [zf 2 wS (btE (zi zI (arg args 0)) (zQ (arg args 1))).1,.int .i64 (btE (zi zI (arg args 0)) (zQ (arg args 1))).2],none⟩
def zkr:Contract:=fun _ args=>⟨∃ t,args=[.agg (wg t)],.agg (wS ((qb (cellsOf (arg args 0))).name,0)),none⟩
def zbf (k:FuncId):Contract:=fun rl args=>⟨∃ l,args=[zf 3 wg l,.fn (.func k) [] []]∧l.length≤1000000,
 .msl rl 0 (zi qb (arg args 0)).length,some (.arr (zi qb (arg args 0)).length 2 fun i=>wS ((el (zi qb (arg args 0)) i).name,0))⟩
attribute [go_sem] btQC zkr zbf
def qQ (j x:Int)(s:Str):Nat→Int
 | 0=>x
 | i+1=>((4 * j+3) * qQ j x s i+(((s.getD i 0).toNat:Nat):Int)+5 * j+2).tmod 256
theorem u8_le (b:UInt8):(((b.toNat:Nat):Int))≤255:=by have:=b.toNat_lt;omega
theorem zdt {j x:Int}(hj:0≤j∧j≤7)(hx:0≤x∧x≤255)(s:Str):∀ i,0≤qQ j x s i∧qQ j x s i≤255
 | 0=>hx
 | i+1=>by
   have h:=zdt hj hx s i
   have h2:0≤(4 * j+3) * qQ j x s i:=Int.mul_nonneg (by omega) h.1
   show 0≤((4 * j+3) * qQ j x s i+(((s.getD i 0).toNat:Nat):Int)+5 * j+2).tmod 256∧((4 * j+3) * qQ j x s i+(((s.getD i 0).toNat:Nat):Int)+5 * j+2).tmod 256≤255
   rw[Int.tmod_eq_emod_of_nonneg (by omega)]
   omega
theorem zhy {j x:Int}(hj:0≤j∧j≤7)(hx:0≤x∧x≤255):0≤(4 * j+3) * x∧(4 * j+3) * x≤7905:=by
 have h1:(4 * j+3) * x≤31 * 255:=Int.le_trans (Int.mul_le_mul_of_nonneg_right (by omega) hx.1) (Int.mul_le_mul_of_nonneg_left hx.2 (by decide))
 exact⟨Int.mul_nonneg (by omega) hx.1,by omega⟩
def wj (k:List Int):List V:=k.map (V.int .u8)
def qz (l:List V):List Int:=l.map wo
theorem zaA (k:List Int):qz (wj k)=k:=by
 unfold qz wj
 rw[List.map_map]
 exact(List.map_congr_left fun x _=>rfl).trans (List.map_id k)
structure KeyOk (k:List Int):Prop where
 len:k.length=8
 bd:∀ x∈k,0≤x∧x≤255
theorem KeyOk.el {k:List Int}(h:KeyOk k){i:Nat}(hi:i < 8):0≤Off.el k i∧Off.el k i≤255:=h.bd _ (wd (by rw[h.len];exact hi))
def qg (k:List Int)(s:Str)(n:Nat):List Int:=(List.range 8).map fun j=>if j < n then qQ j (el k j) s s.length else el k j
theorem vo (k:List Int)(s:Str)(n:Nat):(qg k s n).length=8:=by simp[qg]
theorem sealK_at (k:List Int)(s:Str)(n:Nat){j:Nat}(h:j < 8):el (qg k s n) j=if j < n then qQ j (el k j) s s.length else el k j:=ziL (f:=fun j=>if j < n then qQ (j:Nat) (el k j) s s.length else el k j) h
theorem zme {K:List Int}{j:Nat}(h:j < K.length):(List.drop (0+j * 1) (wj K)).head?=some (V.int .u8 (el K j)):=by
 rw[Nat.zero_add,Nat.mul_one,List.head?_drop]
 simp[wj,h,el]
theorem qp {K:List Int}(h:K.length=8):(if 8≤(wj K).length then some (V.agg (List.take 8 (wj K))) else none)=some (V.agg (wj K)):=by
 have e:(wj K).length=8:=by simp[wj,h]
 rw[if_pos (by omega),List.take_of_length_le (by omega)]
theorem zkH (k:List Int)(s:Str){j:Nat}(h:j < 8):(wj (qg k s j)).set (0+j * 1) (V.int .u8 (qQ j (el k j) s s.length))=wj (qg k s (j+1)):=by
 rw[Nat.zero_add,Nat.mul_one]
 apply List.ext_getElem
 ·simp[wj,qg]
 ·intro i h1 h2
  simp only[wj,List.getElem_set,List.getElem_map,qg,List.getElem_range]
  by_cases e:j=i
  ·subst e;simp
  ·rw[if_neg e]
   by_cases q:i < j
   ·rw[if_pos q,if_pos (by omega)]
   ·rw[if_neg q,if_neg (by omega)]
theorem zj7 {k:List Int}(h:k.length=8)(s:Str):qg k s 0=k:=by
 apply List.ext_getElem
 ·simp[qg,h]
 ·intro i h1 h2
  simp[qg,el,h2]
theorem qJ (k:List Int):(wj k).length=k.length:=by simp[wj]
theorem zk1 (k:List Int):(wj k).all jM=true:=by simp[wj,jM]
theorem jX {K:List Int}(h:K.length=8):((wj K).length=8∧(wj K).all jM=true)=True:=eq_true ⟨by rw[qJ,h],zk1 K⟩
theorem ja {K:List Int}(h:K.length=8):(0+(wj K).length≤8)=True:=eq_true (by rw[qJ,h];decide)
theorem kC {K:List Int}(h:K.length=8)(a b c d e f g i:V):qa [a,b,c,d,e,f,g,i] 0 (wj K)=wj K:=by
 match K,h with
 | [k0,k1,k2,k3,k4,k5,k6,k7],_=>rfl
theorem wrap8 {x:Int}(h:0≤x∧x≤255):IntKind.u8.wrap x=x:=qe ((zmn x).2 h)
theorem zgK {hp:Heap}{n:Nat}(k:List Int):(wj k).map (frz (n+1) hp)=wj k:=by
 unfold wj
 rw[List.map_map]
 exact List.map_congr_left fun x _=>v7 (.int _ _)
theorem all_key (k:List Int):(∀ c,c∈wj k→Pu c)↔True:=iff_true_intro fun c hc=>by
 obtain⟨x,_,rfl⟩:=List.mem_map.1 hc
 exact .int _ _
def zbD (k:List Int)(s:Str):List Int:=qg k s 8
theorem yg (k:List Int)(s:Str):(zbD k s).length=8:=vo k s 8
def zdj (n:Nat)(get:Nat→List V)(s:Str):Prop:=n=s.length∧∀ i,i < n→get i=[.int .u8 (s.getD i 0).toNat]
def j7:V→Str
 | .sl n _ g=>(List.range n).map fun i=>UInt8.ofNat (wo ((g i).getD 0 .top)).toNat
 | _=>[]
theorem qx {n:Nat}{get:Nat→List V}{s:Str}(h:zdj n get s):j7 (.sl n 1 get)=s:=by
 obtain⟨rfl,h⟩:=h
 apply List.ext_getElem
 ·simp[j7]
 ·intro i h1 h2
  have e:(s.getD i 0)=s[i]:=by simp[h2]
  simp only[j7,List.getElem_map,List.getElem_range,h i h2,e]
  show UInt8.ofNat (((s[i].toNat:Nat):Int)).toNat=s[i]
  simp
def zgj:Contract:=fun _ args=>⟨∃ k n get s,args=[.agg (wj k),.sl n 1 get]∧KeyOk k∧zdj n get s∧s.length≤1000000000,.agg (wj (zbD (qz (cellsOf (arg args 0))) (j7 (arg args 1)))),none⟩
def zcH (k:List Int)(s:Str):List Int×Int:=if 400000 < s.length then ([0,0,0,0,0,0,0,0],26) else (zbD k s,0)
def zhz:Contract:=fun _ args=>⟨∃ k n get s,args=[.agg (wj k),.sl n 1 get]∧KeyOk k∧zdj n get s∧s.length≤1000000000,
 .tup [.agg (wj (zcH (qz (cellsOf (arg args 0))) (j7 (arg args 1))).1),.int .i64 (zcH (qz (cellsOf (arg args 0))) (j7 (arg args 1))).2],none⟩
attribute [go_sem] zgK all_key zaA zgj zhz
def jO (r:Reg)(m:Mp):Nat→Str
 | 0=>[]
 | i+1=>jO r m i++((((el r.houses i).name++[32])++Lib.itoa (el m.levels i))++[10])
def vY (r:Reg)(m:Mp):Str:=jO r m m.levels.length
theorem zm3 (e:Int):∀ (n:Nat) (k:Int),levE e n k≤k+n
 | 0,k=>by show k≤k+0;omega
 | n+1,k=>by
   unfold levE
   split
   ·have:=zm3 e n (k+1);omega
   ·omega
theorem zfp (e:Int):-1≤levelE e∧levelE e≤120:=⟨zgP e 121 (-1),by have:=zm3 e 121 (-1);unfold levelE;omega⟩
theorem zib {s:Str}(h:nameB s=true):s.length≤24:=by
 simp only[nameB,Bool.and_eq_true,decide_eq_true_eq] at h
 exact h.1.2
structure MpB (r:Reg):Prop where
 houses:∀ h∈r.houses,h.name.length≤24
 levels:∀ m∈r.maps,m.levels.length≤r.houses.length∧∀ v∈m.levels,-1≤v∧v≤120
theorem Acc.name {r:Reg}{e:Ev}{k:Kd}(h:Acc r e k){i:Nat}(hi:i < k.letters.length):(el e.names i).length≤24:=by
 obtain⟨k',h1,h2,h3,h4,h5,-⟩:=jV h.ev
 rw[h.kind] at h1
 cases h1
 exact zib (h5 _ (wd (by omega)))
theorem Acc.mpb {r:Reg}{e:Ev}{k:Kd}(h:Acc r e k)(hb:MpB r):MpB (w9 levelE r e):=by
 rw[wJ h.kind]
 cases k
 case house =>
  refine⟨fun c hc=>?_,fun m hm=>⟨?_,(hb.levels m hm).2⟩⟩
  ·rcases List.mem_append.1 (show c∈r.houses++[_] from hc) with q | q
   ·exact hb.houses c q
   ·rw[List.mem_singleton.1 q];exact h.name (i:=0) (by decide)
  ·show m.levels.length≤(r.houses++[_]).length
   rw[List.length_append]
   have:=(hb.levels m hm).1
   omega
 case publish =>
  refine⟨hb.houses,fun m hm=>?_⟩
  rcases List.mem_append.1 (show m∈r.maps++[_] from hm) with q | q
  ·exact hb.levels m q
  ·rw[List.mem_singleton.1 q]
   refine⟨by show (r.houses.map _).length≤r.houses.length;rw[List.length_map];exact Nat.le_refl _,fun v hv=>?_⟩
   obtain⟨x,hx,rfl⟩:=List.mem_map.1 (show v∈r.houses.map _ from hv)
   exact zfp _
 case undo=>exact absurd rfl h.real
 all_goals exact⟨hb.houses,hb.levels⟩
theorem Cnt.mpb {l:List Ev}(h:Cnt levelE l):∀ {i:Nat},i≤l.length→MpB (made levelE (l.take i))
 | 0,_=>by
   rw[List.take_zero]
   exact⟨fun c hc=>(by cases hc),fun c hc=>(by cases hc)⟩
 | i+1,hi=>by
   rw[vt levelE l (by omega)]
   obtain⟨k,hk⟩:=h i (by omega)
   exact hk.mpb (h.mpb (by omega))
theorem zeN (l:List Ev):MpB (replayed levelE l).1.now:=by
 have q:=(yS (lv:=levelE) l).1
 rw[q.now]
 have:=q.cnt.mpb (Nat.le_refl (replayed levelE l).1.counted.length)
 rwa [List.take_length] at this
theorem znk {r:Reg}{s:Str}(h:s∈r.namesOf 109):r.chart s∈r.maps:=wd (zU (f:=Mp.name) h)
theorem itoa21 {n:Int}(h:-9223372036854775808≤n∧n≤9223372036854775807):(Lib.itoa n).length≤21:=jR h
theorem zaT {r:Reg}(hb:MpB r){m:Mp}(hm:m∈r.maps):∀ {i:Nat},i≤m.levels.length→(jO r m i).length≤47 * i
 | 0,_=>Nat.le_refl _
 | i+1,h=>by
   have h1:=zaT hb hm (i:=i) (by omega)
   have hl:=hb.levels m hm
   have h2:=hb.houses _ (wd (show i < r.houses.length by omega))
   have h3:=hl.2 _ (wd (show i < m.levels.length by omega))
   have h4:=itoa21 (n:=el m.levels i) (by omega)
   unfold jO
   simp only[List.length_append,List.length_cons,List.length_nil]
   omega
def kX (l:List Ev)(m:Str)(k:List Int):List Int×Int :=
 if jC l 109 m≠0 then ([0,0,0,0,0,0,0,0],jC l 109 m) else (zbD k (vY (replayed levelE l).1.now ((replayed levelE l).1.now.chart m)),0)
def zfk:Contract:=fun _ args=>⟨∃ l m k,args=[zf 5 encEv l,.str m,.agg (wj k)]∧l.length≤1000000∧(∀ e∈l,EvB e)∧KeyOk k,
 .tup [.agg (wj (kX (zi zI (arg args 0)) (zQ (arg args 1)) (qz (cellsOf (arg args 2)))).1),.int .i64 (kX (zi zI (arg args 0)) (zQ (arg args 1)) (qz (cellsOf (arg args 2)))).2],none⟩
def za9 (l:List Ev)(m:Str)(k s:List Int):Int:=zv [(kX l m k).2,err (!decide ((kX l m k).1=s)) 27]
def zbk:Contract:=fun _ args=>⟨∃ l m k s,args=[zf 5 encEv l,.str m,.agg (wj k),.agg (wj s)]∧l.length≤1000000∧(∀ e∈l,EvB e)∧KeyOk k∧KeyOk s,
 .int .i64 (za9 (zi zI (arg args 0)) (zQ (arg args 1)) (qz (cellsOf (arg args 2))) (qz (cellsOf (arg args 3)))),none⟩
attribute [go_sem] zfk zbk
def vU (e:Ev):List Str:=[Lib.itoa e.num,e.kind]++e.names++e.vals.map Lib.itoa
def zb2 (e:Ev):Str:=Lib.join (vU e) [32]
def yT (e:Ev):Str:=((zb2 e++[35])++qV (zb2 e))++[10]
structure RecOk (e:Ev):Prop where
 num:In64 e.num
 kind:e.kind.length≤100
 names:e.names.length≤10
 vals:e.vals.length≤10
 strs:∀ s∈e.names,s.length≤100
 ints:∀ v∈e.vals,In64 v
theorem RecOk.of {e:Ev}(h:eventE e=0):RecOk e:=by
 obtain⟨k,h1,h2,h3,h4,h5,h6,h7,h8⟩:=jV h
 have hk:=kZ h1
 refine⟨⟨by omega,by omega⟩,?_,?_,?_,fun s hs=>?_,fun v hv=>?_⟩
 ·rw[hk];cases k <;> decide
 ·rw[h2];cases k <;> decide
 ·rw[h3];cases k <;> decide
 ·have:=zib (h5 s hs);omega
 ·have:=h4 v hv;exact⟨by omega,by omega⟩
theorem zcq {e:Ev}(h:RecOk e):(∀ x∈vU e,x.length≤100)∧(vU e).length≤22:=by
 unfold vU
 constructor
 ·intro x hx
  simp only[List.mem_append,List.mem_cons,List.not_mem_nil,or_false,List.mem_map] at hx
  rcases hx with((rfl | rfl) | hx) | ⟨v,hv,rfl⟩
  ·have:=jR h.num;omega
  ·exact h.kind
  ·exact h.strs x hx
  ·have:=jR (h.ints v hv);omega
 ·have h1:=h.names
  have h2:=h.vals
  simp only[List.length_append,List.length_cons,List.length_nil,List.length_map]
  omega
theorem zac {e:Ev}(h:RecOk e):(zb2 e).length≤2222:=by
 obtain⟨h1,h2⟩:=zcq h
 have:=zgR (l:=vU e) (sep:=[32]) h1
 simp only[List.length_cons,List.length_nil] at this
 unfold zb2
 omega
def zh9:Contract:=fun _ args=>⟨∃ e,args=[.agg (encEv e)]∧RecOk e,.str (zb2 (zI (cellsOf (arg args 0)))),none⟩
def jG:Contract:=fun _ args=>⟨∃ e,args=[.agg (encEv e)]∧RecOk e,.str (yT (zI (cellsOf (arg args 0)))),none⟩
def zie (k:FuncId):Contract:=fun _ args=>⟨∃ l,args=[zh l,.fn (.func k) [] []]∧l.length≤1000000∧∀ v∈l,In64 v,zg ((yr (arg args 0)).map Lib.itoa),none⟩
attribute [go_sem] zh9 jG zie
end Go.Fly.Off
end
