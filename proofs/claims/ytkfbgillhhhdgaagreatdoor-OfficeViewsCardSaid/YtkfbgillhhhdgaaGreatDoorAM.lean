/- Part of a proof. No conditions. -/
import Derived.Test.YtkfbgillhhhdgaaGreatDoorAL
set_option linter.unusedSimpArgs false
set_option linter.unusedVariables false
section
namespace Go.Fly.Off
open Go
theorem qK {α:Type}[Inhabited α]{l:List α}{x:α}{j:Nat}(h:j < l.length):el (l++[x]) j=el l j:=by
 simp[el,List.getElem?_append_left h]
theorem zec {α:Type}[Inhabited α]{l:List α}{x:α}{j:Nat}(h:j=l.length):el (l++[x]) j=x:=by
 subst h;simp[el]
theorem jm {α:Type}[Inhabited α]{l:List α}{i:Nat}(h:i < l.length):l.take (i+1)=l.take i++[el l i]:=by
 rw[yp _ h,List.take_succ_eq_append_getElem h]
theorem yw {α:Type}[Inhabited α]{p:α→Bool}{l:List α}{i:Nat}(h:i < l.length)(hp:p (el l i)=true):(l.take (i+1)).filter p=(l.take i).filter p++[el l i]:=by
 rw[jm h,List.filter_append,List.filter_cons_of_pos hp,List.filter_nil]
theorem qw {α:Type}[Inhabited α]{p:α→Bool}{l:List α}{i:Nat}(h:i < l.length)(hp:p (el l i)=false):(l.take (i+1)).filter p=(l.take i).filter p:=by
 rw[jm h,List.filter_append,List.filter_cons_of_neg (by simp[hp]),List.filter_nil,List.append_nil]
theorem vn {α:Type}[Inhabited α]{f:α→List V}{sz:Nat}{l:List α}{x:α}{j n:Nat}(hn:n=l.length)(hl:(f x).length=sz)(hj:j < n+1):f (el (l++[x]) j)=if j < n then f (el l j) else wa (f x) sz (0+(j - n)):=by
 subst hn
 by_cases e:j < l.length
 ·rw[if_pos e,qK e]
 ·obtain rfl:j=l.length:=by omega
  rw[if_neg e,zkV hl (by omega),zec rfl]
def keptV (k1 k2:FuncId):Option Str→V
 | none=>.fn (.func k1) [] []
 | some s=>.fn (.func k2) [] [.cptr [.str s]]
def keptF:V→Fl→Bool
 | .fn _ _ []=>fun f=>decide (f.heard≠-1)
 | .fn _ _ [.cptr [.str s]]=>fun f=>decide (f.type=s)
 | _=>fun _=>false
theorem zfv {a:Fn}{b:List V}:keptF (.fn a b [])=fun f=>decide (f.heard≠-1):=by cases b <;> rfl
theorem zfu {a:Fn}{b:List V}{s:Str}:keptF (.fn a b [.cptr [.str s]])=fun f=>decide (f.type=s):=by cases b <;> rfl
def flB (g:Fl→Bool):Contract:=fun _ args=>⟨∃ f,args=[.agg (zM f)],.bool (g (qc (cellsOf (arg args 0)))),none⟩
def zc7:Contract:=fun _ args=>⟨∃ f s,args=[.agg (zM f),.cptr [.str s]],.bool (decide ((qc (cellsOf (arg args 0))).type=zQ ((cellsOf (arg args 1)).getD 0 .top))),none⟩
def ze0 (k1 k2:FuncId):Contract:=fun _ args=>⟨∃ l p,args=[zf 5 zM l,keptV k1 k2 p]∧l.length≤1000000,zf 5 zM ((zi qc (arg args 0)).filter (keptF (arg args 1))),none⟩
def kW:Contract:=fun _ args=>⟨∃ r s,args=[.cptr (zt r),.str s]∧RL r,zf 5 zM ((wC (cellsOf (arg args 0))).matched (zQ (arg args 1))),none⟩
def ziw:Contract:=fun _ args=>⟨∃ r d,args=[.cptr (zt r),.int .i64 d]∧RL r,.bool ((wC (cellsOf (arg args 0))).flies (wo (arg args 1))),none⟩
def optV:Option Int→V
 | none=>.tup [.int .i64 (-1),.bool false]
 | some n=>.tup [.int .i64 n,.bool true]
def LastOk (r:Reg):Prop:=∀ m,r.maps.getLast?=some m→m.levels.length≤1000000
def zdV:Contract:=fun _ args=>⟨∃ r s,args=[.cptr (zt r),.str s]∧RL r∧s∈r.namesOf 104∧LastOk r,optV ((wC (cellsOf (arg args 0))).listed (zQ (arg args 1))),none⟩
def zm1:Contract:=fun _ args=>⟨∃ r s,args=[.cptr (zt r),.str s]∧RL r∧s∈r.namesOf 104∧LastOk r,.bool ((wC (cellsOf (arg args 0))).isLoud (zQ (arg args 1))),none⟩
def kQ:Contract:=fun _ args=>⟨∃ o s,args=[.agg (zX o),.cptr [.str s]],.bool (decide ((qy (cellsOf (arg args 0))).house=zQ ((cellsOf (arg args 1)).getD 0 .top))),none⟩
def capS:V→Str
 | .fn _ _ [.cptr [.str s]]=>s
 | _=>[]
theorem zek {a:Fn}{b:List V}{s:Str}:capS (.fn a b [.cptr [.str s]])=s:=by cases b <;> rfl
def zgw (l:List Of)(s:Str):Int:=if l.any (fun x=>decide (x.house=s)) then (l.findIdx fun x=>decide (x.house=s):Nat) else -1
def ziq (k:FuncId):Contract:=fun _ args=>⟨∃ l s,args=[zf 4 zX l,.fn (.func k) [] [.cptr [.str s]]]∧l.length≤1000000,.int .i64 (zgw (zi qy (arg args 0)) (capS (arg args 1))),none⟩
def ziU (k:FuncId):Contract:=fun _ args=>⟨∃ l s,args=[zf 4 zX l,.fn (.func k) [] [.cptr [.str s]]]∧l.length≤1000000,.bool ((zi qy (arg args 0)).any fun x=>decide (x.house=capS (arg args 1))),none⟩
def qr:Contract:=fun _ args=>⟨∃ r s,args=[.cptr (zt r),.str s]∧RL r,.bool ((wC (cellsOf (arg args 0))).hasOffer (zQ (arg args 1))),none⟩
attribute [go_sem] flB zc7 ze0 kW ziw zdV zm1 kQ ziq ziU qr zfv zfu zek
theorem zjG (r:Reg)(s:Str):(r.flights.filter fun f=>decide (f.heard≠-1)).filter (fun f=>decide (f.type=s))=r.matched s:=by
 unfold Reg.matched
 rw[List.filter_filter]
 congr 1
 funext f
 exact Bool.and_comm _ _
theorem zbo {α:Type}[Inhabited α]{p:α→Bool}{l:List α}{i:Nat}(hi:i < l.length)(hb:∀ j,j < i→p (el l j)=false)(h:p (el l i)=true):l.any p=true:=by
 rw[List.any_eq_true]
 exact⟨el l i,by rw[yp _ hi];exact List.getElem_mem hi,h⟩
theorem zbp {α:Type}[Inhabited α]{p:α→Bool}{l:List α}(hb:∀ j,j < l.length→p (el l j)=false):l.any p=false:=by
 rw[List.any_eq_false]
 intro x hx
 obtain⟨j,hj,rfl⟩:=List.mem_iff_getElem.1 hx
 rw[← yp _ hj,hb j hj]
 simp
theorem zlz {l:List Of}{s:Str}{i:Nat}(hi:i < l.length)(hb:∀ j,j < i→decide ((el l j).house=s)=false)(h:decide ((el l i).house=s)=true):zgw l s=i:=by
 unfold zgw
 rw[if_pos (zbo hi hb h)]
 have:(l.findIdx fun x=>decide (x.house=s))=i:=by
  rw[List.findIdx_eq hi]
  refine⟨by rw[← yp _ hi];exact h,fun j hj=>?_⟩
  have:=hb j hj
  rw[yp _ (by omega)] at this
  exact this
 rw[this]
theorem ofIdx_no {l:List Of}{s:Str}(hb:∀ j,j < l.length→decide ((el l j).house=s)=false):zgw l s=-1:=by
 unfold zgw
 rw[if_neg (by rw[zbp hb];simp)]
theorem zf8 {l:List Of}{s:Str}:decide (0≤zgw l s)=l.any fun x=>decide (x.house=s):=by
 unfold zgw
 cases l.any fun x=>decide (x.house=s) <;> simp
theorem zbX {α:Type}[Inhabited α]{l:List α}(h:0 < l.length):l.getLast?=some (el l (l.length - 1)):=by
 rw[List.getLast?_eq_getElem?,yp _ (by omega)]
 simp
theorem zgN {r:Reg}{s:Str}(h:0 < r.maps.length):r.listed s=(el r.maps (r.maps.length - 1)).levels[zO (r.namesOf 104) s]?:=by
 unfold Reg.listed
 rw[zbX h]
theorem zgO {r:Reg}{s:Str}(h:r.maps.length=0):r.listed s=none:=by
 unfold Reg.listed
 rw[List.eq_nil_of_length_eq_zero h]
 rfl
def ze7 (c a:Kd→FuncId)(k:Kd):Value:=.agg #[.string ⟨k.letters.toArray⟩,.int .i64 k.values,.func (.func (c k)) #[] #[],.func (.func (a k)) #[] #[]]
def qu (c a:Kd→FuncId):List Kd→Nat→List MapEntry
 | [],_=>[]
 | k::l,i=>⟨.string ⟨k.str.toArray⟩,ze7 c a k,i⟩::qu c a l (i+1)
def zbj (c a:Kd→FuncId):Obj:=.map (qu c a Kd.all 0).toArray 13
def zfC (c a:Kd→FuncId)(k:Kd):V:=.agg [.str k.letters,.int .i64 k.values,.fn (.func (c k)) [] [],.fn (.func (a k)) [] []]
def zmy:V:=.agg [.str [],.int .i64 0,.nilfn,.nilfn]
def formV (c a:Kd→FuncId):Option Kd→V
 | some k=>zfC c a k
 | none=>zmy
theorem zjS (c a:Kd→FuncId)(k:Kd):formV c a (some k)=zfC c a k:=rfl
theorem zjT (c a:Kd→FuncId):formV c a none=zmy:=rfl
theorem zdu (s t:List UInt8):Instr.sameNow .string (.string ⟨s.toArray⟩) (.string ⟨t.toArray⟩)=some (decide (t=s)):=by
 show some ((⟨s.toArray⟩:ByteArray) == ⟨t.toArray⟩)=_
 rw[show ((⟨s.toArray⟩:ByteArray) == ⟨t.toArray⟩)=(s.toArray == t.toArray) from rfl]
 congr 1
 by_cases h:t=s
 ·subst h;simp
 ·simp[h,Ne.symm h]
theorem za4 (c a:Kd→FuncId)(s:Str):∀ (l:List Kd) (i j:Nat),(Instr.findNow .string (.string ⟨s.toArray⟩) (qu c a l i) j).map (fun r=>r.map (·.2))=some ((l.find? fun k=>decide (k.str=s)).map (ze7 c a))
 | [],i,j=>rfl
 | k::l,i,j=>by
   unfold qu Instr.findNow
   rw[zdu]
   by_cases h:k.str=s
   ·simp[h]
   ·have ih:=za4 c a s l (i+1) (j+1)
    simp only[h,decide_false,List.find?_cons,Bool.false_eq_true]
    exact ih
theorem formK_of (c a:Kd→FuncId)(k:Kd):ofValue (ze7 c a k)=zfC c a k:=by
 unfold ze7 ofValue zfC
 simp[zaN]
theorem zjI {P:Program}{t kt et:TypeId}(ht:P.underlying t=some (.map kt et))(hk:P.underlying kt=some .string)(hz:tzero P et=some zmy)(c a:Kd→FuncId)(s:Str) :
 zcu P t (zbj c a) s=some (formV c a (kindOf s),(kindOf s).isSome):=by
 have h:=za4 c a s Kd.all 0 0
 unfold zcu zbj
 rw[ht]
 simp only[hk]
 have hkf:(Kd.all.find? fun k=>decide (k.str=s))=kindOf s:=rfl
 rw[hkf] at h
 cases hf:Instr.findNow .string (.string ⟨s.toArray⟩) (qu c a Kd.all 0) 0 with
 | none=>rw[hf] at h;cases h
 | some r =>
   rw[hf] at h
   simp only[Option.map_some,Option.some.injEq] at h
   cases r with
   | none =>
     simp only[Option.map_none] at h
     cases hkk:kindOf s with
     | some k=>rw[hkk] at h;cases h
     | none=>simp only[hz];rfl
   | some p =>
     obtain⟨i,v⟩:=p
     simp only[Option.map_some] at h
     cases hkk:kindOf s with
     | none=>rw[hkk] at h;cases h
     | some k =>
       rw[hkk] at h
       simp only[Option.map_some,Option.some.injEq] at h
       subst h
       simp only[formK_of]
       rfl
def zmx (P:Program)(t:TypeId):Prop:=match P.underlying t with
 | some (.map kt et)=>P.underlying kt=some .string∧tzero P et=some zmy
 | _=>False
theorem zmw {P:Program}{t:TypeId}:zmx P t=(match P.underlying t with
 | some (.map kt et)=>P.underlying kt=some .string∧tzero P et=some (.agg [.str [],.int .i64 0,.nilfn,.nilfn])
 | _=>False):=propext ⟨id,id⟩
theorem zgL {P:Program}{t:TypeId}(h:zmx P t)(c a:Kd→FuncId)(s:Str):zcu P t (zbj c a) s=some (formV c a (kindOf s),(kindOf s).isSome):=by
 unfold zmx at h
 split at h
 ·rename_i kt et ht
  exact zjI ht h.1 h.2 c a s
 ·exact h.elim
theorem pu_mapc (o:Obj):Pu (.mapc o)↔True:=iff_true_intro (.mapc o)
theorem frz_mapp {n:Nat}{hp:Heap}{L:Nat}:frz (n+1) hp (.mapp L)=match hp (0,L) with
 | some (.raw o)=>.mapc o
 | _=>.top:=by
 have:¬ Pu (.mapp L):=fun h=>by cases h
 rw[frz,if_neg this]
 rfl
theorem zfB {n:Nat}{hp:Heap}{L:Nat}{o:Obj}:frz (n+1) (updH hp (0,L) (.raw o)) (.mapp L)=.mapc o:=by rw[frz_mapp,zd]
theorem fN_nil {k:Value}{i:Nat}:Instr.findNow .string k [] i=some none:=rfl
theorem fN_ne {s t:List UInt8}{v:Value}{b i:Nat}{es:List MapEntry}(h:¬ t=s):Instr.findNow .string (.string ⟨s.toArray⟩) (⟨.string ⟨t.toArray⟩,v,b⟩::es) i=Instr.findNow .string (.string ⟨s.toArray⟩) es (i+1):=by
 show (match Instr.sameNow .string (.string ⟨s.toArray⟩) (.string ⟨t.toArray⟩) with | some true=>_ | some false=>_ | none=>_)=_
 rw[zdu,decide_eq_false h]
theorem u8_1:((116:UInt8)=102)=False:=eq_false (by decide)
theorem u8_2:((116:UInt8)=117)=False:=eq_false (by decide)
theorem u8_3:((102:UInt8)=117)=False:=eq_false (by decide)
theorem u8_4:((104:UInt8)=109)=False:=eq_false (by decide)
theorem u8_5:((104:UInt8)=111)=False:=eq_false (by decide)
theorem u8_6:((109:UInt8)=111)=False:=eq_false (by decide)
theorem u8_7:((102:UInt8)=97)=False:=eq_false (by decide)
theorem u8_8:((99:UInt8)=112)=False:=eq_false (by decide)
theorem u8_9:((111:UInt8)=105)=False:=eq_false (by decide)
theorem u8_10:((112:UInt8)=100)=False:=eq_false (by decide)
theorem u8_11:((99:UInt8)=100)=False:=eq_false (by decide)
attribute [go_sem] zmw zgL pu_mapc fN_nil fN_ne
def wX (c a:Kd→FuncId):Contract:=fun _ args=>⟨args=[],.mapc (zbj c a),none⟩
def zbw:Contract:=fun _ args =>
 match args with
 | [.str s]=>⟨s.length≤9223372036854775807,.int .i64 (err (!nameB s) 8),none⟩
 | _=>⟨False,.top,none⟩
def zdS (k:FuncId):Contract:=fun _ args=>⟨∃ l:List Str,args=[zg l,.fn (.func k) [] []]∧l.length≤1000000∧∀ s∈l,s.length≤9223372036854775807,zh ((wL (arg args 0)).map fun s=>err (!nameB s) 8),none⟩
def zdT (k:FuncId):Contract:=fun _ args=>⟨∃ l:List Int,args=[zh l,.fn (.func k) [] []]∧l.length≤1000000,zh ((yr (arg args 0)).map fun v=>rng v 0 999999999),none⟩
structure EvB (e:Ev):Prop where
 names:e.names.length≤1000000
 vals:e.vals.length≤1000000
 strs:∀ s∈e.names,s.length≤9223372036854775807
def za7:Contract:=fun _ args=>⟨∃ e,args=[.agg (encEv e)]∧EvB e,.int .i64 (eventE (zI (cellsOf (arg args 0)))),none⟩
attribute [go_sem] zbw wX zdS zdT za7 zjS zjT zfC zmy
theorem zfE (l:List Int):yZ (vR fun i=>[.int .i64 (el l i)]) 0 l.length=zv l :=
 ke l _ 0 fun j hj=>by rw[Nat.zero_add];rfl
theorem zmk (l:List Int):(zdi l.length fun i=>[.int .i64 (el l i)])↔l.length≤9223372036854775807:=⟨fun h=>h.1,fun h=>⟨h,fun i hi=>rfl⟩⟩
theorem zjX (l:List Int):yZ (el l) 0 l.length=zv l:=zfE l
theorem err_t {e:Int}:err true e=e:=rfl
theorem err_f {e:Int}:err false e=0:=rfl
attribute [go_sem] zfE zjX zmk
theorem wT (x:Int)(l:List Int):zv (x::l)=if x≠0 then x else zv l:=rfl
theorem ze8 (l m:List Int):zv (l++m)=if zv l≠0 then zv l else zv m:=by
 induction l with
 | nil=>simp[zv]
 | cons x l ih =>
   rw[List.cons_append,wT,wT,ih]
   by_cases h:x=0 <;> simp[h]
theorem kf {e:Ev}(h:kindOf e.kind=none)(sh:Int):zv [rng e.num 1 1000,13,sh]=eventE e∧eventE e≠0:=by
 unfold eventE
 rw[h]
 by_cases q:rng e.num 1 1000=0 <;> simp[zv,q]
theorem zh4 {e:Ev}{k:Kd}(h:kindOf e.kind=some k):eventE e =
 if zv [rng e.num 1 1000,0,err (decide (e.names.length≠k.letters.length) || decide (e.vals.length≠k.values)) 2]≠0 then zv [rng e.num 1 1000,0,err (decide (e.names.length≠k.letters.length) || decide (e.vals.length≠k.values)) 2]
 else zv [zv (e.names.map fun s=>err (!nameB s) 8),zv (e.vals.map fun v=>rng v 0 999999999),err (decide (e.text≠[])) 1]:=by
 unfold eventE
 rw[h]
 simp only[List.append_assoc,ze8]
 generalize zv (e.names.map fun s=>err (!nameB s) 8)=A
 generalize zv (e.vals.map fun v=>rng v 0 999999999)=B
 simp only[zv]
 generalize rng e.num 1 1000=C
 generalize err (decide (e.names.length≠k.letters.length) || decide (e.vals.length≠k.values)) 2=D
 by_cases c:C=0 <;> by_cases d:D=0 <;> by_cases a:A=0 <;> simp[c,d,a]
end Go.Fly.Off
end
