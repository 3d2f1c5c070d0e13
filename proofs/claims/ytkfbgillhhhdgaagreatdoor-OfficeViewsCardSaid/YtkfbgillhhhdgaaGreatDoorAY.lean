/- Part of a proof. No conditions. -/
import Derived.Test.YtkfbgillhhhdgaaGreatDoorAX
import Derived.Lib.Join
import Derived.Test.YtkfbgillhhhdgaaGreatDoorAS
import Derived.Test.YtkfbgillhhhdgaaGreatDoorAP
import Derived.Test.YtkfbgillhhhdgaaGreatDoorAQ
set_option linter.unusedSimpArgs false
set_option linter.unusedVariables false
section
namespace Go.Fly.Off
open Go
def zkj (u:Nat):Str:=if u=0 then [] else Lib.decDigits u
theorem zn5 {u:Nat}(h:u≠0):zkj u=zkj (u / 10)++[UInt8.ofNat (48+u % 10)]:=by
 unfold zkj
 rw[if_neg h,Lib.decDigits]
 split
 ·rename_i q
  rw[if_pos (by omega),Nat.mod_eq_of_lt q]
  rfl
 ·rename_i q
  rw[if_neg (by omega)]
theorem zfQ {n:Int}(h:n≠0):Lib.itoa n=if n < 0 then 45::zkj n.natAbs else zkj n.natAbs:=by
 have h2:n.natAbs≠0:=by omega
 unfold Lib.itoa zkj
 rw[if_neg h2]
 split
 ·rfl
 ·rw[show n.toNat=n.natAbs by omega]
theorem digA_len {n:Int}(h:In64 n):(zkj n.natAbs).length≤21:=by
 by_cases h0:n=0
 ·subst h0;decide
 ·have:=jR h
  rw[zfQ h0] at this
  split at this
  ·simp only[List.length_cons] at this;omega
  ·exact this
theorem tmodA {v:Int}:max (v.tmod 10) (0 - v.tmod 10)=((v.natAbs % 10:Nat):Int):=by
 rcases Int.le_total 0 v with h | h
 ·rw[Int.tmod_eq_emod_of_nonneg h]
  omega
 ·obtain⟨w,rfl⟩:∃ w,v=-w:=⟨-v,by omega⟩
  rw[Int.neg_tmod,Int.tmod_eq_emod_of_nonneg (by omega)]
  omega
theorem tdivA {v:Int}:(v.tdiv 10).natAbs=v.natAbs / 10:=by
 rw[Int.natAbs_tdiv];rfl
theorem wrapA (k:Nat):IntKind.u8.wrap (48+((k % 10:Nat):Int))=((48+k % 10:Nat):Int):=by
 simp[IntKind.wrap,IntKind.bits,IntKind.signed]
 omega
def zku:Contract:=fun _ args=>⟨∃ n,args=[.int .i64 n]∧In64 n,.str (Lib.itoa (wo (arg args 0))),none⟩
attribute [go_sem] zku
theorem ziN (u:Nat):∀ i,zh5 (u:Int) i=((u / 10 ^ i:Nat):Int)
 | 0=>by simp[zh5]
 | i+1=>by
   show (zh5 (u:Int) i).tdiv 10=_
   rw[ziN u i,Int.tdiv_eq_ediv_of_nonneg (Int.natCast_nonneg _),Nat.pow_succ,← Nat.div_div_eq_div_mul]
   generalize u / 10 ^ i=w
   omega
theorem digN_nat (u i:Nat):UInt8.ofNat (zg5 (u:Int) i).toNat=UInt8.ofNat (48+u / 10 ^ i % 10):=by
 congr 1
 unfold zg5
 rw[ziN,Int.tmod_eq_emod_of_nonneg (Int.natCast_nonneg _)]
 generalize u / 10 ^ i=w
 omega
theorem zlV:∀ (k u:Nat),u < 10 ^ (k+1)→Lib.nDigits u≤k+1
 | 0,u,h=>by rw[Lib.nDigits_small (by simpa using h)];exact Nat.le_refl _
 | k+1,u,h=>by
   by_cases q:u < 10
   ·rw[Lib.nDigits_small q];omega
   ·rw[Lib.nDigits_big q]
    have:=zlV k (u / 10) (by rw[Nat.pow_succ] at h;omega)
    omega
theorem pad_dig {u:Nat}(h:u < 10 ^ 7):List.replicate (7 - (Lib.decDigits u).length) (48:UInt8)++Lib.decDigits u=(List.range 7).map fun j=>UInt8.ofNat (zg5 (u:Int) (6 - j)).toNat:=by
 have hp:=Lib.nDigits_pos u
 have hlt:=Lib.lt_pow_nDigits u
 have hle:Lib.nDigits u≤7:=zlV 6 u h
 apply List.ext_getElem
 ·rw[List.length_append,List.length_replicate,List.length_map,List.length_range,Lib.decDigits_length]
  omega
 ·intro i h1 h2
  have hi:i < 7:=by simpa using h2
  rw[List.getElem_map,List.getElem_range,digN_nat]
  by_cases q:i < 7 - (Lib.decDigits u).length
  ·rw[List.getElem_append_left (by simpa using q),List.getElem_replicate]
   rw[Lib.decDigits_length] at q
   have:u / 10 ^ (6 - i)=0:=Nat.div_eq_of_lt (Nat.lt_of_lt_of_le hlt (Nat.pow_le_pow_right (by decide) (by omega)))
   rw[this]
   rfl
  ·rw[List.getElem_append_right (by simpa using q)]
   simp only[List.length_replicate,Lib.decDigits_eq,List.getElem_map,List.getElem_range,List.length_map,List.length_range]
   rw[Lib.decDigits_length] at q
   rw[show Lib.nDigits u - 1 - (i - (7 - Lib.nDigits u))=6 - i by omega]
   rfl
def padE (n:Nat)(s:Str):Str:=List.replicate n 48++s
theorem zlq (s:Str):padE (7 - (Lib.itoa (zb1 s s.length)).length) (Lib.itoa (zb1 s s.length))=qV s:=by
 obtain⟨h1,h2⟩:=zcj s s.length
 unfold qV padE Lib.itoa
 obtain⟨u,hu⟩:∃ u:Nat,zb1 s s.length=u:=⟨(zb1 s s.length).toNat,by omega⟩
 have hu2:u < 10000000:=by omega
 rw[hu,if_neg (by omega),Int.toNat_natCast]
 exact pad_dig hu2
theorem itoa_chk (s:Str):(Lib.itoa (zb1 s s.length)).length≤7:=by
 have h:=congrArg List.length (zlq s)
 unfold padE qV at h
 rw[List.length_append,List.length_replicate,List.length_map,List.length_range] at h
 omega
def kq (e:Ev)(i:Nat):Str:=Lib.join ((vU e).take (2+i)) [32]
theorem bodyW_0 (e:Ev):kq e 0=(Lib.itoa e.num++[32])++e.kind:=by
 unfold kq vU
 simp only[List.cons_append,List.nil_append,List.take_succ_cons,List.take_zero,Nat.add_zero]
 rw[Lib.join_cons]
 simp[Lib.joinTail]
theorem zdd (e:Ev){i:Nat}{w:Str}(h:(vU e)[2+i]?=some w):kq e (i+1)=(kq e i++[32])++w:=by
 have hb:vU e=Lib.itoa e.num::([e.kind]++e.names++e.vals.map Lib.itoa):=by unfold vU;rfl
 obtain⟨r,hr⟩:∃ r,r=[e.kind]++e.names++e.vals.map Lib.itoa:=⟨_,rfl⟩
 unfold kq
 rw[hb,← hr] at h ⊢
 rw[show 2+(i+1)=(1+i+1)+1 by omega,show 2+i=(1+i)+1 by omega] at *
 rw[List.take_succ_cons,List.take_succ_cons,Lib.join_cons,Lib.join_cons,Lib.joinTail_take_succ [32] r (1+i) w (by simpa using h)]
 simp only[List.append_assoc]
theorem znm (e:Ev):kq e (e.names.length+e.vals.length)=zb2 e:=by
 unfold kq zb2
 rw[List.take_of_length_le]
 unfold vU
 simp only[List.length_append,List.length_cons,List.length_nil,List.length_map]
 omega
theorem zka (e:Ev){i:Nat}(h:i < e.names.length):kq e (i+1)=(kq e i++[32])++el e.names i:=zdd e (by
 unfold vU
 rw[List.getElem?_append_left (by simp only[List.length_append,List.length_cons,List.length_nil];omega),List.getElem?_append_right (by simp only[List.length_cons,List.length_nil];omega)]
 simp only[List.length_cons,List.length_nil,show 2+i - (0+1+1)=i by omega]
 simp[el,h])
theorem znl (e:Ev){i:Nat}(h:i < e.vals.length):kq e (e.names.length+i+1)=(kq e (e.names.length+i)++[32])++Lib.itoa (el e.vals i):=zdd e (by
 unfold vU
 rw[List.getElem?_append_right (by simp only[List.length_append,List.length_cons,List.length_nil];omega)]
 simp only[List.length_append,List.length_cons,List.length_nil,show 2+(e.names.length+i) - (0+1+1+e.names.length)=i by omega]
 simp[el,h])
theorem bodyW_le {e:Ev}(h:RecOk e)(i:Nat):(kq e i).length≤2222:=by
 obtain⟨h1,h2⟩:=zcq h
 have:=zgR (l:=(vU e).take (2+i)) (sep:=[32]) fun x hx=>h1 x (List.mem_of_mem_take hx)
 simp only[List.length_cons,List.length_nil] at this
 have h3:((vU e).take (2+i)).length≤22:=Nat.le_trans (List.length_take_le' _ _) (by omega)
 unfold kq
 omega
def zbC (k:List Int)(s:Str)(n:Nat):List Int:=(List.range 8).map fun j=>if j < n then qQ j (el k j) s s.length else 0
theorem zkF (k:List Int)(s:Str)(n:Nat):(zbC k s n).length=8:=by simp[zbC]
theorem zkG (k:List Int)(s:Str):zbC k s 8=zbD k s:=by
 unfold zbD qg zbC
 exact List.map_congr_left fun j hj=>by rw[if_pos (List.mem_range.1 hj),if_pos (List.mem_range.1 hj)]
theorem zkE (k:List Int)(s:Str){j:Nat}(h:j < 8):(wj (zbC k s j)).set (0+j * 1) (V.int .u8 (qQ j (el k j) s s.length))=wj (zbC k s (j+1)):=by
 rw[Nat.zero_add,Nat.mul_one]
 apply List.ext_getElem
 ·simp[wj,zbC]
 ·intro i h1 h2
  simp only[wj,List.getElem_set,List.getElem_map,zbC,List.getElem_range]
  by_cases e:j=i
  ·subst e;simp
  ·rw[if_neg e]
   by_cases q:i < j
   ·rw[if_pos q,if_pos (by omega)]
   ·rw[if_neg q,if_neg (by omega)]
def zg2 (n:Nat)(get:Nat→List V):Prop:=n≤1000000∧∀ i,i < n→get i=[.int .i64 (wo ((get i).getD 0 .top))]
def zkh (n:Nat)(get:Nat→List V):Prop:=n≤1000000∧∀ i,i < n→get i=wS (w6 (get i))
theorem zb4.pu {n:Nat}{get:Nat→List V}(h:zb4 n get):Pu (.sl n 1 get):=vW.2 fun i hi v hv=>by
 rw[h.2 i hi,List.mem_singleton] at hv
 subst hv;exact .str _
theorem zg2.pu {n:Nat}{get:Nat→List V}(h:zg2 n get):Pu (.sl n 1 get):=vW.2 fun i hi v hv=>by
 rw[h.2 i hi,List.mem_singleton] at hv
 subst hv;exact .int _ _
theorem zkh.pu {n:Nat}{get:Nat→List V}(h:zkh n get):Pu (.sl n 2 get):=vW.2 fun i hi v hv=>by
 rw[h.2 i hi] at hv
 exact(vM _).pu v hv
theorem zgm {α:Type}{f:List V→α}{n sz sz':Nat}{a b:Nat→List V}(h:zi f (.sl n sz a)=zi f (.sl n sz' b)){i:Nat}(hi:i < n):f (a i)=f (b i):=by
 have:=congrArg (fun l=>l[i]?) h
 simpa [zi,hi] using this
theorem zgl {α:Type}{f:List V→α}{n sz sz':Nat}{a b:Nat→List V}(h:∀ i,i < n→f (a i)=f (b i)):zi f (.sl n sz a)=zi f (.sl n sz' b) :=
 List.map_congr_left fun i hi=>h i (List.mem_range.1 hi)
theorem zdx {α:Type}{f:List V→α}{n m sz sz':Nat}{a b:Nat→List V}(h:zi f (.sl n sz a)=zi f (.sl m sz' b)):n=m:=by
 simpa [zi] using congrArg List.length h
theorem its_row {n:Nat}{get:Nat→List V}(h:zkh n get):zkh (zi w6 (.sl n 2 get)).length fun i=>wS (el (zi w6 (.sl n 2 get)) i):=⟨by simpa [zi] using h.1,fun i hi=>by rw[ziR]⟩
theorem znS (n:Nat)(a:Nat→List V):zo (.sl n 2 fun k=>wS (w6 (a k))) (zf 2 wS (zi w6 (.sl n 2 a))):=by
 unfold zf
 rw[show (zi w6 (.sl n 2 a)).length=n by simp[zi]]
 exact zo.sl fun i hi=>by simp[zi,el,hi]
def zhA:Contract:=fun _ args=>⟨∃ n get m get',args=[.sl n 1 get,.sl m 1 get']∧zb4 n get∧zb4 m get',.bool (decide (wL (arg args 0)=wL (arg args 1))),none⟩
def zhB:Contract:=fun _ args=>⟨∃ n get m get',args=[.sl n 1 get,.sl m 1 get']∧zg2 n get∧zg2 m get',.bool (decide (yr (arg args 0)=yr (arg args 1))),none⟩
def qX:Contract:=fun _ args=>⟨∃ n get m get',args=[.sl n 2 get,.sl m 2 get']∧zkh n get∧zkh m get',.bool (decide (zi w6 (arg args 0)=zi w6 (arg args 1))),none⟩
def zin:Contract:=fun _ args=>⟨∃ n get,args=[.sl n 2 get]∧zkh n get,zf 2 wS (zi w6 (arg args 0)),none⟩
def zkw (v:V):Prop:=v=.nils∨∃ n get,v=.sl n 1 get∧zb4 n get
def intsA (v:V):Prop:=∃ n get,v=.sl n 1 get∧zg2 n get
def zjE:Contract:=fun _ args=>⟨∃ n k a v,args=[.int .i64 n,.str k,a,v]∧zkw a∧intsA v,.agg (encEv ⟨wo (arg args 0),zQ (arg args 1),wL (arg args 2),yr (arg args 3),[]⟩),none⟩
def evsA (v:V):Prop:=v=.nils∨∃ n get,v=.sl n 5 get∧n≤1000∧∀ i,i < n→get i=encEv (zI (get i))
def zgb (l:List Ev):Contract:=fun _ args=>⟨∃ v,args=[v]∧evsA v,zf 5 encEv (l++zi zI (arg args 0)),none⟩
def wE:List Ev:=[⟨1,[116,121,112,101],[[106,101,116]],[1,100000000],[]⟩,⟨2,[104,111,117,115,101],[[97]],[1,500],[]⟩,⟨3,[104,111,117,115,101],[[98]],[1,1],[]⟩,
 ⟨4,[102,108,105,103,104,116],[[102],[106,101,116]],[2,10],[]⟩,⟨5,[102,108,105,103,104,116],[[103],[106,101,116]],[2,20],[]⟩,⟨6,[102,108,105,103,104,116],[[104],[106,101,116]],[2,30],[]⟩,
 ⟨7,[112,117,98,108,105,115,104],[[109]],[3],[]⟩,⟨8,[102,117,110,100],[],[3,900],[]⟩]
def vr:List Ev:=wE++[⟨9,[109,97,116,99,104],[[102]],[4,40000000],[]⟩,⟨10,[109,97,116,99,104],[[103]],[4,50000000],[]⟩,⟨11,[109,97,116,99,104],[[104]],[4,60000000],[]⟩]
attribute [go_sem] zhA zhB qX zin zjE zgb
theorem zdq:zkw .nils:=.inl rfl
theorem zdp {a:Str}:zkw (zg [a]):=.inr ⟨_,_,rfl,zbv (by simp)⟩
theorem zdo {a b:Str}:zkw (zg [a,b]):=.inr ⟨_,_,rfl,zbv (by simp)⟩
theorem jP {a:Int}:zg2 1 (wa [.int .i64 a] 1):=⟨by omega,fun i hi=>by obtain rfl:i=0:=(by omega);rfl⟩
theorem vZ {a b:Int}:zg2 2 (wa [.int .i64 a,.int .i64 b] 1):=⟨by omega,fun i hi=>by
 have:i=0∨i=1:=by omega
 rcases this with rfl | rfl <;> rfl⟩
theorem zau {a:Int}:intsA (.sl 1 1 (wa [.int .i64 a] 1)):=⟨_,_,rfl,jP⟩
theorem zat {a b:Int}:intsA (.sl 2 1 (wa [.int .i64 a,.int .i64 b] 1)):=⟨_,_,rfl,vZ⟩
theorem dec_nilS:wL .nils=[]:=rfl
theorem ziQ:zi zI .nils=[]:=rfl
attribute [go_sem] dec_nilS ziQ
theorem zhk {n:Nat}{a:Nat→List V}(ha:∀ i,i < n→a i=encEv (zI (a i)))(L:List Ev)(i:Nat)(hi:i < L.length+n)(g:Nat→List V)(hg:∀ i,i < L.length→g i=encEv (el L i)) :
 encEv (el (L++zi zI (.sl n 5 a)) i)=if i < L.length then g i else a (i - L.length):=by
 by_cases q:i < L.length
 ·rw[if_pos q,hg i q]
  congr 1
  simp[el,List.getElem?_append_left q]
 ·rw[if_neg q,ha (i - L.length) (by omega)]
  congr 1
  have h1:L.length≤i:=by omega
  have h2:i - L.length < n:=by omega
  simp[el,zi,List.getElem?_append_right h1,h2]
theorem zj2 {v:V}(h:zkw v):zo v (zg (wL v)):=by
 rcases h with rfl | ⟨n,get,rfl,h⟩
 ·exact zo.nils 1 _
 ·exact zhi h
theorem zjN {v:V}(h:intsA v):zo v (zh (yr v)):=by
 obtain⟨n,get,rfl,h⟩:=h
 have hl:(yr (.sl n 1 get)).length=n:=by simp[yr,zi]
 unfold zh
 rw[hl]
 refine zo.sl fun i hi=>?_
 rw[h.2 i hi]
 simp[yr,zi,el,hi]
theorem evsA_len {v:V}(h:evsA v):(zi zI v).length≤1000:=by
 rcases h with rfl | ⟨n,get,rfl,h,-⟩
 ·exact Nat.zero_le _
 ·simpa [zi] using h
set_option maxRecDepth 100000
theorem a01:znG wE [97]=(150000000,71,0):=by kernel_rfl
theorem a02:znG wE [98]=(300000,44,0):=by kernel_rfl
theorem a03:zfU wE [97]=([([102],50000000),([103],50000000),([104],50000000)],0):=by kernel_rfl
theorem a04:btE wE [97]=([([106,101,116],150000000)],0):=by kernel_rfl
theorem a05:zmV wE=([[97]],0):=by kernel_rfl
theorem a06:wO levelE wE ⟨9,[111,102,102,101,114],[[111],[98]],[4,500],[]⟩=21:=by kernel_rfl
theorem a08:wO levelE (wE++[⟨9,[111,102,102,101,114],[[111],[97]],[4,500],[]⟩]) ⟨10,[111,102,102,101,114],[[117],[97]],[4,500],[]⟩=31:=by kernel_rfl
def regA:Reg:=(wz levelE (wE++[⟨9,[111,102,102,101,114],[[111],[97]],[4,500],[]⟩,⟨10,[112,97,121],[[111]],[4],[]⟩])).1
theorem a10:(wz levelE (wE++[⟨9,[111,102,102,101,114],[[111],[97]],[4,500],[]⟩,⟨10,[112,97,121],[[111]],[4],[]⟩])).2=(0,0):=by kernel_rfl
theorem a10f:regA.fund=400:=by kernel_rfl
theorem a11:wO levelE (wE++[⟨9,[111,102,102,101,114],[[111],[97]],[4,500],[]⟩,⟨10,[112,97,121],[[111]],[4],[]⟩]) ⟨11,[112,97,121],[[111]],[4],[]⟩=23:=by kernel_rfl
theorem a14:wO levelE wE ⟨9,[99,111,114,114,101,99,116],[[106,101,116]],[4,500],[]⟩=16:=by kernel_rfl
theorem a15:znG (vr++[⟨12,[99,111,114,114,101,99,116],[[106,101,116]],[4,500],[]⟩]) [97]=(75000000,68,0):=by kernel_rfl
theorem a16:zgv (vr++[⟨12,[99,111,114,114,101,99,116],[[106,101,116]],[4,500],[]⟩]) [109] [97]=(71,0):=by kernel_rfl
theorem a17:zod vr [106,101,116]=(3,150000000,0):=by kernel_rfl
theorem a18:wO levelE wE ⟨9,[99,111,109,112,108,97,105,110],[[120],[98]],[2,15],[]⟩=22:=by kernel_rfl
theorem a20:wO levelE (wE++[⟨9,[99,111,109,112,108,97,105,110],[[120],[98]],[3,15],[]⟩]) ⟨10,[100,105,115,109,105,115,115],[[120]],[3],[]⟩=0:=by kernel_rfl
theorem a21:wO levelE (wE++[⟨9,[99,111,109,112,108,97,105,110],[[120],[98]],[3,15],[]⟩]) ⟨10,[97,110,115,119,101,114],[[120],[102]],[3],[]⟩=24:=by kernel_rfl
theorem a22:zfr (wE++[⟨9,[99,111,109,112,108,97,105,110],[[120],[98]],[3,15],[]⟩]) 33=([],0):=by kernel_rfl
theorem a23:zfr (wE++[⟨9,[99,111,109,112,108,97,105,110],[[120],[98]],[3,15],[]⟩]) 34=([[120]],0):=by kernel_rfl
theorem a24:jc wE [97] [([102],50000000),([103],50000000)] 71=(2,19):=by kernel_rfl
theorem a25:jc wE [97] [([102],50000000),([103],50000000),([104],50000000)] 70=(3,24):=by kernel_rfl
theorem a26:jc wE [97] [([102],50000000),([103],50000000),([104],50000000)] 71=(3,0):=by kernel_rfl
theorem zim {i:Nat}(h1:¬ i < 10)(h2:i < 100):Lib.itoa (i:Int)=[UInt8.ofNat (48+i / 10),UInt8.ofNat (48+i % 10)]:=by
 unfold Lib.itoa
 rw[if_neg (by omega),Int.toNat_natCast]
 exact Lib.decDigits_two h1 h2
def zjM:List Int:=[1,0,0,0,0,0,0,0]
def strA:Str:=[97,32,55,49,10,98,32,52,52,10]
theorem mapA:vY (replayed levelE wE).1.now ((replayed levelE wE).1.now.chart [109])=strA:=by
 have h1:((replayed levelE wE).1.now.chart [109]).levels=[71,44]:=by kernel_rfl
 have h2:(el (replayed levelE wE).1.now.houses 0).name=[97]:=by kernel_rfl
 have h3:(el (replayed levelE wE).1.now.houses 1).name=[98]:=by kernel_rfl
 have h4:Lib.itoa 71=[55,49]:=zim (i:=71) (by omega) (by omega)
 have h5:Lib.itoa 44=[52,52]:=zim (i:=44) (by omega) (by omega)
 unfold vY
 simp only[h1,List.length_cons,List.length_nil,jO,h2,h3]
 simp[el,h4,h5,strA]
theorem a27:kX wE [109] zjM=(zbD zjM strA,0):=by
 have h0:jC wE 109 [109]=0:=by kernel_rfl
 unfold kX
 rw[if_neg (fun q=>q h0),mapA]
theorem a28:za9 wE [109] zjM (zbD zjM strA)=0:=by
 unfold za9
 rw[a27]
 simp[zv,err]
def evT:Ev:=⟨1,[116,121,112,101],[[106,101,116]],[1,100000000],[]⟩
def lineT:Str:=[116,121,112,101,32,106,101,116,32,49,32,49,48,48,48,48,48,48,48,48]
theorem a31:eventE evT=0:=by kernel_rfl
theorem logA:logE [evT]=yT evT:=by
 unfold logE
 exact Lib.join_one _ _
theorem hist_new {c:Nat}{tm:List V}{H:Heap}{box:Loc}(hb:box.2 < 900)(hc:H box=some (.cells [.nils,.nils,.int .i64 0,.nils,.nils,.nils,.nils,.nils,.nils,.int .i64 0]))(hn:∀ i,900≤i→H (c,i)=none)(hf:∀ l:Loc,c < l.1→H l=none)(hlo:box.1≤c)(h0:0 < box.1) :
 ∃ S y,(∀ k0:K,wu k0 ⟨c,tm,H⟩ ⟨c+1,tm,S⟩)∧y.box=box∧HAt S y (c,900) (c,901) {}∧HLayOk y (c,900) (c,901) c∧(∀ l:Loc,c < l.1→S l=none)∧(∀ l:Loc,l.1 < c→l≠box→S l=H l)∧∀ l:Loc,l∈y.locs→l=box∨l.1=c:=by
 have b:∀ i,900≤i→¬ box=(c,i):=fun i hi q=>by subst q;simp at hb;omega
 have b':∀ i,900≤i→¬ (c,i)=box:=fun i hi q=>b i hi q.symm
 have s0:=fun k0=>wu.nilC (k0:=k0) (s:=⟨c,tm,H⟩) (l:=(c,900)) (l2:=box) (j:=0) 5 (fun i=>encEv (el [] i)) (b 900 (by omega)) hc rfl (hn 900 (by omega)) rfl
 simp only[List.set] at s0
 let H1:Heap:=updH (updH H (c,900) (.arr 0 5 fun i=>encEv (el [] i))) box (.cells [.msl (c,900) 0 0,.nils,.int .i64 0,.nils,.nils,.nils,.nils,.nils,.nils,.int .i64 0])
 have v1:∀ j,901≤j→H1 (c,j)=none:=fun j hj=>by
  show updH (updH H (c,900) _) box _ (c,j)=none
  rw[zc (b' j (by omega)),zc fun q=>absurd (congrArg Prod.snd q) (by show ¬ j=900;omega)]
  exact hn j (by omega)
 have s1:=fun k0=>wu.nilC (k0:=k0) (s:=⟨c,tm,H1⟩) (l:=(c,901)) (l2:=box) (j:=1) 5 (fun i=>encEv (el [] i)) (b 901 (by omega)) (zd _ _ _) rfl (v1 901 (by omega)) rfl
 simp only[List.set] at s1
 let H2:Heap:=updH (updH H1 (c,901) (.arr 0 5 fun i=>encEv (el [] i))) box (.cells [.msl (c,900) 0 0,.msl (c,901) 0 0,.int .i64 0,.nils,.nils,.nils,.nils,.nils,.nils,.int .i64 0])
 have v2:∀ j,902≤j→H2 (c,j)=none:=fun j hj=>by
  show updH (updH H1 (c,901) _) box _ (c,j)=none
  rw[zc (b' j (by omega)),zc fun q=>absurd (congrArg Prod.snd q) (by show ¬ j=901;omega)]
  exact v1 j (by omega)
 have hl:∀ l:Loc,c < l.1→∀ d,¬ l=(c,d):=fun l h d q=>by subst q;exact Nat.lt_irrefl _ h
 have f2:∀ l:Loc,c < l.1→H2 l=none:=fun l h=>by
  have q:¬ l=box:=by rintro rfl;omega
  show updH (updH (updH (updH H (c,900) _) box _) (c,901) _) box _ l=none
  rw[zc q,zc (hl l h _),zc q,zc (hl l h _),hf l h]
 have hy:LayOk (yo box [.msl (c,900) 0 0,.msl (c,901) 0 0] c) c:=zbG (by omega) h0 hlo (.inr ⟨_,_,rfl⟩)
 have out:∀ i,i < 1000→900≤i→(c,i)∉(yo box [.msl (c,900) 0 0,.msl (c,901) 0 0] c).locs:=fun i h1 h2 q=>by
  simp only[Lay.locs,yo,List.mem_cons,List.not_mem_nil,or_false,Prod.mk.injEq,true_and] at q
  rcases q with q | q | q | q | q | q | q
  ·exact b' i h2 q
  all_goals omega
 refine⟨zx H2 (yo box [.msl (c,900) 0 0,.msl (c,901) 0 0] c) {},yo box [.msl (c,900) 0 0,.msl (c,901) 0 0] c,fun k0=>wu.trans (s0 k0) (wu.trans (s1 k0) (wu.reg2 (by omega) (zd _ _ _) (fun i hi=>v2 i (by omega)) f2 hlo)),rfl,⟨wA hy {},rfl,?_,?_⟩,⟨hy,by simp,out 900 (by omega) (by omega),out 901 (by omega) (by omega),Nat.le_refl _,Nat.le_refl _⟩,fun l h=>?_,fun l h q=>?_,fun l q=>?_⟩
 ·rw[z8 (out 900 (by omega) (by omega))]
  show updH (updH (updH (updH H (c,900) _) box _) (c,901) _) box _ (c,900)=_
  rw[zc (b' 900 (by omega)),zc (by simp),zc (b' 900 (by omega)),zd]
  rfl
 ·rw[z8 (out 901 (by omega) (by omega))]
  show updH (updH _ (c,901) _) box _ (c,901)=_
  rw[zc (b' 901 (by omega)),zd]
  rfl
 ·rw[z8 (fun q=>by have:=hy.hi _ q;omega),f2 l h]
 ·have hne:∀ d,¬ l=(c,d):=fun d q=>by subst q;exact Nat.lt_irrefl _ h
  rw[z8 (fun q2=>by
   simp only[Lay.locs,yo,List.mem_cons,List.not_mem_nil,or_false] at q2
   rcases q2 with q2 | q2 | q2 | q2 | q2 | q2 | q2
   ·exact q q2
   all_goals exact hne _ q2)]
  show updH (updH (updH (updH H (c,900) _) box _) (c,901) _) box _ l=_
  rw[zc q,zc (hne _),zc q,zc (hne _)]
 ·simp only[Lay.locs,yo,List.mem_cons,List.not_mem_nil,or_false] at q
  rcases q with q | q | q | q | q | q | q
  ·exact .inl q
  all_goals exact .inr (congrArg Prod.fst q)
def evBb (e:Ev):Bool:=Nat.ble e.names.length 1000000 && Nat.ble e.vals.length 1000000 && e.names.all fun s=>Nat.ble s.length 9223372036854775807
theorem kg {l:List Ev}(h:l.all evBb=true):∀ e∈l,EvB e:=fun e he=>by
 have:=List.all_eq_true.1 h e he
 simp only[evBb,Bool.and_eq_true,List.all_eq_true] at this
 exact⟨Nat.le_of_ble_eq_true this.1.1,Nat.le_of_ble_eq_true this.1.2,fun s hs=>Nat.le_of_ble_eq_true (this.2 s hs)⟩
theorem jW {e:Ev}(h:evBb e=true):EvB e:=kg (l:=[e]) (by simp[h]) e (by simp)
theorem zb9 {l:List Ev}{n:Nat}{get:Nat→List V}(hn:n=l.length)(h:∀ i,i < n→get i=encEv (el l i)):zi zI (.sl n 5 get)=l:=by
 subst hn
 show (List.range l.length).map (fun i=>zI (get i))=l
 conv=>rhs;rw[← jH l]
 exact List.map_congr_left fun i hi=>by rw[h i (List.mem_range.1 hi),wH]
def qA:Contract:=fun _ args=>⟨∃ l n get e,args=[.sl n 5 get,.agg (encEv e)]∧n=l.length∧(∀ i,i < n→get i=encEv (el l i))∧l.length≤1000000∧(∀ e∈l,EvB e)∧EvB e,.int .i64 (wO levelE (zi zI (arg args 0)) (zI (cellsOf (arg args 1)))),none⟩
theorem zhf {P:Program}{G:Nat→V}{f:FuncId}(h:Holds P G f je):Holds P G f qA:=zav h fun rl args hpu hp=>by
 obtain⟨l,n,get,e,rfl,hn,h1,h2,h3,h4⟩:=hp
 have hd:=zb9 hn h1
 subst hn
 refine⟨[zf 5 encEv l,.agg (encEv e)],rfl,fun j v hv=>?_,fun a ha=>?_,⟨l,e,rfl,h2,h3,h4⟩,rfl,?_⟩
 ·rcases j with _ | _ | j
  ·exact⟨_,rfl,by simp at hv;rw[← hv];exact kx fun i hi=>by rw[h1 i hi];exact qh _⟩
  ·exact⟨_,rfl,by simp at hv;rw[← hv];exact zo.refl _⟩
  ·simp at hv
 ·simp only[List.mem_cons,List.not_mem_nil,or_false] at ha
  rcases ha with rfl | rfl
  ·exact(kM l).2 trivial
  ·exact(pu_ev e).2 trivial
 ·show V.int .i64 (wO levelE (zi zI (zf 5 encEv l)) _)=V.int .i64 (wO levelE (zi zI (.sl l.length 5 get)) _)
  rw[hd,wF]
  rfl
def zba:Contract:=fun _ args=>⟨∃ l n get,args=[.sl n 5 get]∧n=l.length∧(∀ i,i < n→get i=encEv (el l i))∧l.length≤1000000∧(∀ e∈l,EvB e),.tup [.agg (zt (wz levelE (zi zI (arg args 0))).1),.int .i64 (wz levelE (zi zI (arg args 0))).2.1,.int .i64 (wz levelE (zi zI (arg args 0))).2.2],none⟩
theorem zjf {P:Program}{G:Nat→V}{f:FuncId}(h:Holds P G f qY):Holds P G f zba:=zav h fun rl args hpu hp=>by
 obtain⟨l,n,get,rfl,hn,h1,h2,h3⟩:=hp
 have hd:=zb9 hn h1
 subst hn
 refine⟨[zf 5 encEv l],rfl,fun j v hv=>?_,fun a ha=>?_,⟨l,rfl,h2,h3⟩,rfl,?_⟩
 ·rcases j with _ | j
  ·exact⟨_,rfl,by simp at hv;rw[← hv];exact kx fun i hi=>by rw[h1 i hi];exact qh _⟩
  ·simp at hv
 ·simp only[List.mem_cons,List.not_mem_nil,or_false] at ha
  rcases ha with rfl
  exact(kM l).2 trivial
 ·show V.tup [.agg (zt (wz levelE (zi zI (zf 5 encEv l))).1),.int .i64 (wz levelE (zi zI (zf 5 encEv l))).2.1,.int .i64 (wz levelE (zi zI (zf 5 encEv l))).2.2]=V.tup [.agg (zt (wz levelE (zi zI (.sl l.length 5 get))).1),.int .i64 (wz levelE (zi zI (.sl l.length 5 get))).2.1,.int .i64 (wz levelE (zi zI (.sl l.length 5 get))).2.2]
  rw[hd,wF]
attribute [go_sem] qA zba
theorem zfS {a b c d e:V}:zi zI (.sl 1 5 (wa [a,b,c,d,e] 5))=[zI [a,b,c,d,e]]:=rfl
theorem zef {n:Int}{k t:Str}{a:List Str}{b:List Int}:zI [.int .i64 n,.str k,zg a,zh b,.str t]=⟨n,k,a,b,t⟩:=wH ⟨n,k,a,b,t⟩
def T14:List Ev:=wE++[⟨9,[111,102,102,101,114],[[111],[97]],[4,500],[]⟩]
def T16:List Ev:=wE++[⟨9,[111,102,102,101,114],[[111],[97]],[4,500],[]⟩,⟨10,[112,97,121],[[111]],[4],[]⟩]
def T31:List Ev:=wE++[⟨9,[99,111,109,112,108,97,105,110],[[120],[98]],[3,15],[]⟩]
def M15:List Ev:=vr++[⟨12,[99,111,114,114,101,99,116],[[106,101,116]],[4,500],[]⟩]
theorem kV:wE.length≤1000000:=Nat.le_of_ble_eq_true rfl
theorem n_T14:T14.length≤1000000:=Nat.le_of_ble_eq_true rfl
theorem zjD:T16.length≤1000000:=Nat.le_of_ble_eq_true rfl
theorem n_T31:T31.length≤1000000:=Nat.le_of_ble_eq_true rfl
theorem n_M15:M15.length≤1000000:=Nat.le_of_ble_eq_true rfl
theorem zic:vr.length≤1000000:=Nat.le_of_ble_eq_true rfl
theorem zad:∀ e∈wE,EvB e:=kg (by kernel_rfl)
theorem b_T14:∀ e∈T14,EvB e:=kg (by kernel_rfl)
theorem zkd:∀ e∈T16,EvB e:=kg (by kernel_rfl)
theorem b_T31:∀ e∈T31,EvB e:=kg (by kernel_rfl)
theorem b_M15:∀ e∈M15,EvB e:=kg (by kernel_rfl)
theorem ziT:∀ e∈vr,EvB e:=kg (by kernel_rfl)
theorem f_T31:wE++[⟨9,[99,111,109,112,108,97,105,110],[[120],[98]],[3,15],[]⟩]=T31:=rfl
theorem f_M15:vr++[⟨12,[99,111,114,114,101,99,116],[[106,101,116]],[4,500],[]⟩]=M15:=rfl
theorem g08:wO levelE T14 ⟨10,[111,102,102,101,114],[[117],[97]],[4,500],[]⟩=31:=a08
theorem g10:(wz levelE T16).2.1=0:=congrArg Prod.fst a10
theorem g10':(wz levelE T16).2.2=0:=congrArg Prod.snd a10
theorem g10r:(wz levelE T16).1=regA:=rfl
theorem g10n:regA.maps.length=1:=by kernel_rfl
theorem g10l:(el regA.maps 0).levels=[71,44]:=by kernel_rfl
theorem g11:wO levelE T16 ⟨11,[112,97,121],[[111]],[4],[]⟩=23:=a11
theorem g15:znG M15 [97]=(75000000,68,0):=a15
theorem g16:zgv M15 [109] [97]=(71,0):=a16
theorem g20:wO levelE T31 ⟨10,[100,105,115,109,105,115,115],[[120]],[3],[]⟩=0:=a20
theorem g21:wO levelE T31 ⟨10,[97,110,115,119,101,114],[[120],[102]],[3],[]⟩=24:=a21
theorem g22:zfr T31 33=([],0):=a22
theorem g23:zfr T31 34=([[120]],0):=a23
theorem g27:kX wE [109] zjM=([52,227,3,235,155,19,83,91],0):=a27.trans (by kernel_rfl)
theorem g28:za9 wE [109] zjM [52,227,3,235,155,19,83,91]=0:=(congrArg (za9 wE [109] zjM) (by kernel_rfl)).trans a28
theorem g29:zbD zjM strA=[52,227,3,235,155,19,83,91]:=by kernel_rfl
def zh1:Hist:=kr levelE {} evT
theorem h_elig:zh1.now.eligible=[]:=by kernel_rfl
theorem h_names:zh1.now.namesOf 104=[]:=by kernel_rfl
theorem h_evs:zh1.events=[evT]:=by kernel_rfl
theorem do_elig:doS zh1 [101,108,105,103,105,98,108,101]=([110,111,110,101],0):=by kernel_rfl
theorem do_num:doS zh1 [110,117,109,98,101,114,32,97]=([],10):=by kernel_rfl
theorem acc_T:zT {} evT=0:=by kernel_rfl
def awkC:Contract:=fun _ args=>⟨args=[],.bool true,none⟩
attribute [go_sem] awkC
def ev10:Ev:=⟨10,[112,97,121],[[111]],[4],[]⟩
def G16 (i:Nat):List V:=if i < 9 then encEv (el T14 i) else wa (encEv ev10) 5 (i - 9)
theorem r16:∀ i,i < 10→G16 i=encEv (el T16 i):=fun i hi=>by
 have:i=0∨i=1∨i=2∨i=3∨i=4∨i=5∨i=6∨i=7∨i=8∨i=9:=by omega
 rcases this with rfl | rfl | rfl | rfl | rfl | rfl | rfl | rfl | rfl | rfl <;> rfl
theorem p16:∀ i,i < 10→∀ v,v∈G16 i→Pu v:=fun i hi v hv=>by
 rw[r16 i hi] at hv
 exact(yC _ v hv).1
theorem o16:∀ i,i < 1→∀ v,v∈wa (encEv ev10) 5 i→Pu v∧jM v=true:=fun i hi v hv=>by
 obtain rfl:i=0:=by omega
 exact yC ev10 v hv
theorem pu16:Pu (.sl 10 5 G16):=vW.2 p16
theorem d16:zi zI (.sl 10 5 G16)=T16:=zb9 rfl r16
theorem jz:zf 3 wq regA.maps=.sl 1 3 fun i=>wq (el regA.maps i):=by
 unfold zf
 rw[g10n]
theorem e_nil:zg []=.sl 0 1 fun i=>[.str (el [] i)]:=rfl
theorem zmm {l:List Int}(h:l.length≤1000000):zg2 l.length fun i=>[.int .i64 (el l i)]:=⟨h,fun i hi=>rfl⟩
theorem zgT {l:List It}(h:l.length≤1000000):zkh l.length fun i=>wS (el l i):=⟨h,fun i hi=>by rw[ziR]⟩
theorem its_1 {a:Str}{x:Int}:zkh 1 (wa [.str a,.int .i64 x] 2):=⟨by omega,fun i hi=>by obtain rfl:i=0:=(by omega);rfl⟩
theorem its_2 {a b:Str}{x y:Int}:zkh 2 (wa [.str a,.int .i64 x,.str b,.int .i64 y] 2):=⟨by omega,fun i hi=>by
 have:i=0∨i=1:=by omega
 rcases this with rfl | rfl <;> rfl⟩
theorem its_3 {a b c:Str}{x y z:Int}:zkh 3 (wa [.str a,.int .i64 x,.str b,.int .i64 y,.str c,.int .i64 z] 2):=⟨by omega,fun i hi=>by
 have:i=0∨i=1∨i=2:=by omega
 rcases this with rfl | rfl | rfl <;> rfl⟩
theorem dec_it1 {a:Str}{x:Int}:zi w6 (.sl 1 2 (wa [.str a,.int .i64 x] 2))=[(a,x)]:=rfl
theorem dec_it2 {a b:Str}{x y:Int}:zi w6 (.sl 2 2 (wa [.str a,.int .i64 x,.str b,.int .i64 y] 2))=[(a,x),(b,y)]:=rfl
theorem dec_it3 {a b c:Str}{x y z:Int}:zi w6 (.sl 3 2 (wa [.str a,.int .i64 x,.str b,.int .i64 y,.str c,.int .i64 z] 2))=[(a,x),(b,y),(c,z)]:=rfl
theorem dself {α:Type}[DecidableEq α](a:α):decide (a=a)=true:=decide_eq_true rfl
theorem d_key:qz [.int .u8 1,.int .u8 0,.int .u8 0,.int .u8 0,.int .u8 0,.int .u8 0,.int .u8 0,.int .u8 0]=zjM:=rfl
theorem key_k:KeyOk zjM:=⟨rfl,by decide⟩
theorem key_s:KeyOk [52,227,3,235,155,19,83,91]:=⟨rfl,by decide⟩
theorem enc_s:wj [52,227,3,235,155,19,83,91]=[.int .u8 52,.int .u8 227,.int .u8 3,.int .u8 235,.int .u8 155,.int .u8 19,.int .u8 83,.int .u8 91]:=rfl
theorem d_keys:qz [.int .u8 52,.int .u8 227,.int .u8 3,.int .u8 235,.int .u8 155,.int .u8 19,.int .u8 83,.int .u8 91]=[52,227,3,235,155,19,83,91]:=rfl
def zeh:Contract:=fun _ args=>⟨∃ l s n get lv,args=[zf 5 encEv l,.str s,.sl n 2 get,.int .i64 lv]∧l.length≤1000000∧(∀ e∈l,EvB e)∧zkh n get,
 .tup [.int .i64 (jc (zi zI (arg args 0)) (zQ (arg args 1)) (zi w6 (arg args 2)) (wo (arg args 3))).1,.int .i64 (jc (zi zI (arg args 0)) (zQ (arg args 1)) (zi w6 (arg args 2)) (wo (arg args 3))).2],none⟩
attribute [go_sem] zeh
theorem its_vent {n:Nat}{get:Nat→List V}(h:zkh n get):zo (.sl n 2 get) (zf 2 wS (zi w6 (.sl n 2 get))):=by
 unfold zf
 rw[show (zi w6 (.sl n 2 get)).length=n by simp[zi]]
 exact zo.sl fun i hi=>by
  rw[h.2 i hi]
  simp[zi,el,hi]
theorem znj {P:Program}{G:Nat→V}{f:FuncId}(h:Holds P G f zei):Holds P G f zeh:=zav h fun rl args hpu hp=>by
 obtain⟨l,s,n,get,lv,rfl,h1,h2,h3⟩:=hp
 refine⟨[zf 5 encEv l,.str s,zf 2 wS (zi w6 (.sl n 2 get)),.int .i64 lv],rfl,fun j v hv=>?_,fun a ha=>?_,⟨l,s,_,lv,rfl,h1,h2,by simpa [zi] using h3.1⟩,rfl,?_⟩
 ·rcases j with _ | _ | _ | _ | j
  ·exact⟨_,rfl,by simp at hv;rw[← hv];exact zo.refl _⟩
  ·exact⟨_,rfl,by simp at hv;rw[← hv];exact zo.refl _⟩
  ·exact⟨_,rfl,by simp at hv;rw[← hv];exact its_vent h3⟩
  ·exact⟨_,rfl,by simp at hv;rw[← hv];exact zo.refl _⟩
  ·simp at hv
 ·simp only[List.mem_cons,List.not_mem_nil,or_false] at ha
  rcases ha with rfl | rfl | rfl | rfl
  ·exact(kM l).2 trivial
  ·exact .str _
  ·exact(zlj _).2 trivial
  ·exact .int _ _
 ·show V.tup [.int .i64 (jc (zi zI (zf 5 encEv l)) s (zi w6 (zf 2 wS (zi w6 (.sl n 2 get)))) lv).1,.int .i64 (jc (zi zI (zf 5 encEv l)) s (zi w6 (zf 2 wS (zi w6 (.sl n 2 get)))) lv).2]=V.tup [.int .i64 (jc (zi zI (zf 5 encEv l)) s (zi w6 (.sl n 2 get)) lv).1,.int .i64 (jc (zi zI (zf 5 encEv l)) s (zi w6 (.sl n 2 get)) lv).2]
  rw[km]
theorem in0:inK .i64 0:=zn (by decide) (by decide)
theorem pu_ev1 {n:Int}{k t:Str}{a:List Str}{b:List Int}:Pu (.sl 1 5 (wa [.int .i64 n,.str k,zg a,zh b,.str t] 5)):=vW.2 fun i hi v hv=>by
 obtain rfl:i=0:=by omega
 exact(yC ⟨n,k,a,b,t⟩ v hv).1
theorem evsA_1 {n:Int}{k t:Str}{a:List Str}{b:List Int}:evsA (.sl 1 5 (wa [.int .i64 n,.str k,zg a,zh b,.str t] 5)):=.inr ⟨1,_,rfl,by omega,fun i hi=>by
 obtain rfl:i=0:=by omega
 show _=encEv (zI [.int .i64 n,.str k,zg a,zh b,.str t])
 rw[zef]
 rfl⟩
theorem f_evT:(⟨1,[116,121,112,101],[[106,101,116]],[1,100000000],[]⟩:Ev)=evT:=rfl
theorem b_str:zdj 10 (wa [.int .u8 97,.int .u8 32,.int .u8 55,.int .u8 49,.int .u8 10,.int .u8 98,.int .u8 32,.int .u8 52,.int .u8 52,.int .u8 10] 1) strA:=⟨rfl,fun i hi=>by
 have:i=0∨i=1∨i=2∨i=3∨i=4∨i=5∨i=6∨i=7∨i=8∨i=9:=by omega
 rcases this with rfl | rfl | rfl | rfl | rfl | rfl | rfl | rfl | rfl | rfl <;> rfl⟩
theorem d_str:j7 (.sl 10 1 (wa [.int .u8 97,.int .u8 32,.int .u8 55,.int .u8 49,.int .u8 10,.int .u8 98,.int .u8 32,.int .u8 52,.int .u8 52,.int .u8 10] 1))=strA:=qx b_str
theorem t_split:yn 32 lineT=[116,121,112,101]::[[106,101,116],[49],[49,48,48,48,48,48,48,48,48]]:=by kernel_rfl
theorem t_quOf:zhJ [116,121,112,101]=none:=by kernel_rfl
theorem t_kind:kindOf [116,121,112,101]=some .type:=by kernel_rfl
theorem t_evOf:evOf ((0+1:Nat):Int) ([116,121,112,101]::[[106,101,116],[49],[49,48,48,48,48,48,48,48,48]])=(evT,true):=by kernel_rfl
theorem t_tk:(⟨[116,121,112,101]::[[106,101,116],[49],[49,48,48,48,48,48,48,48,48]],false⟩:Tk).Ok:=⟨by simp,by
 have:([[116,121,112,101],[106,101,116],[49],[49,48,48,48,48,48,48,48,48]]:List Str).all (fun w=>Nat.ble w.length 1000000)=true:=rfl
 exact fun w hw=>Nat.le_of_ble_eq_true (List.all_eq_true.1 this w hw)⟩
theorem t_num:[100,111,110,101,32]++Lib.itoa evT.num=[100,111,110,101,32,49]:=by
 have h:Lib.itoa evT.num=[49]:=by
  show Lib.itoa ((1:Nat):Int)=_
  unfold Lib.itoa
  rw[if_neg (by omega),Int.toNat_natCast]
  exact Lib.decDigits_one (by omega)
 rw[h]
 rfl
def keyV:List V:=[.int .u8 52,.int .u8 227,.int .u8 3,.int .u8 235,.int .u8 155,.int .u8 19,.int .u8 83,.int .u8 91]
theorem ze6:HOk levelE zh1:=HOk.init.add a31 acc_T
theorem do_pre1:∃ h s q,[V.cptr (zz zh1),.str [101,108,105,103,105,98,108,101]]=[.cptr (zz h),.str s]∧¬ s=[]∧s.length≤4096∧zhJ (el (yn 32 s) 0)=some q∧AskPre h.now q (yn 32 s).tail :=
 ⟨zh1,_,.eligible,rfl,by decide,by decide,by kernel_rfl,⟨ze6.good.rl,ze6.good.last,.inl ⟨rfl,by kernel_rfl,by rw[h_elig];decide,by rw[h_elig];decide⟩⟩⟩
theorem do_pre2:∃ h s q,[V.cptr (zz zh1),.str [110,117,109,98,101,114,32,97]]=[.cptr (zz h),.str s]∧¬ s=[]∧s.length≤4096∧zhJ (el (yn 32 s) 0)=some q∧AskPre h.now q (yn 32 s).tail :=
 ⟨zh1,_,.number,rfl,by decide,by decide,by kernel_rfl,⟨ze6.good.rl,ze6.good.last,.inr ⟨[97],rfl,by decide,by kernel_rfl,by decide,by rw[h_names];simp⟩⟩⟩
theorem noSlSI {s:Str}{n:Int}:NoSl (.tup [.str s,.int .i64 n]):=.tup _ fun j v hv=>by
 rcases j with _ | _ | j <;> simp at hv <;> subst hv
 ·exact .str _
 ·exact .int _ _
theorem zm2:∃ h,[V.cptr (zz zh1)]=[.cptr (zz h)]∧h.events.length≤1000∧∀ e∈h.events,RecOk e:=⟨zh1,rfl,by rw[h_evs];decide,fun e he=>by
 rw[h_evs] at he
 rw[List.mem_singleton.1 he]
 exact RecOk.of a31⟩
theorem zhx:∃ k n get s,[V.agg [.int .u8 1,.int .u8 0,.int .u8 0,.int .u8 0,.int .u8 0,.int .u8 0,.int .u8 0,.int .u8 0],.sl 10 1 (wa [.int .u8 97,.int .u8 32,.int .u8 55,.int .u8 49,.int .u8 10,.int .u8 98,.int .u8 32,.int .u8 52,.int .u8 52,.int .u8 10] 1)]=[.agg (wj k),.sl n 1 get]∧KeyOk k∧zdj n get s∧s.length≤1000000000 :=
 ⟨zjM,10,_,strA,rfl,key_k,b_str,by decide⟩
theorem rec_pre:∃ e,[V.agg [.int .i64 1,.str [116,121,112,101],zg [[106,101,116]],zh [1,100000000],.str []]]=[.agg (encEv e)]∧RecOk e:=⟨evT,rfl,RecOk.of a31⟩
theorem w010:((0:Nat) < 10)=True:=eq_true (by decide)
theorem b_pul:∀ i,i < 10→∀ v,v∈wa [V.int .u8 97,.int .u8 32,.int .u8 55,.int .u8 49,.int .u8 10,.int .u8 98,.int .u8 32,.int .u8 52,.int .u8 52,.int .u8 10] 1 i→Pu v:=fun i hi v hv=>by
 rw[b_str.2 i hi,List.mem_singleton] at hv
 subst hv
 exact .int _ _
theorem b_pu:Pu (.sl 10 1 (wa [.int .u8 97,.int .u8 32,.int .u8 55,.int .u8 49,.int .u8 10,.int .u8 98,.int .u8 32,.int .u8 52,.int .u8 52,.int .u8 10] 1)):=vW.2 b_pul
theorem inQ_ret2 {X:Cx}{a b:Tmp}{Kn:V→St→Prop}{s:St}:inQ X [.tmp a,.tmp b] Kn .ret s=Kn (.tup [s.tm.getD a .top,s.tm.getD b .top]) s:=by
 rw[inQ]
 simp[yR,zgo,zki]
end Go.Fly.Off
end
