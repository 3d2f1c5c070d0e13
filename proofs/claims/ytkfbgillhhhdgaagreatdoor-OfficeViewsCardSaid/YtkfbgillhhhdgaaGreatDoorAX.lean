/- Part of a proof. No conditions. -/
import Derived.Test.YtkfbgillhhhdgaaGreatDoorAV
import Derived.Lib.Bytealg
import Derived.Test.YtkfbgillhhhdgaaGreatDoorAS
set_option linter.unusedSimpArgs false
set_option linter.unusedVariables false
section
namespace Go.Fly.Off
open Go
structure Tk where
 ws:List Str
 bad:Bool
def Tk.word (t:Tk):Str×Tk:=match t.ws with
 | []=>([],⟨[],true⟩)
 | w::r=>if w=[] then ([],⟨[],true⟩) else (w,⟨r,t.bad⟩)
def Tk.num (t:Tk):Int×Tk:=((intE t.word.1).1,⟨t.word.2.ws,t.word.2.bad || !(intE t.word.1).2⟩)
def Tk.names (t:Tk):Nat→List Str×Tk
 | 0=>([],t)
 | n+1=>((t.names n).1++[(t.names n).2.word.1],(t.names n).2.word.2)
def Tk.nums (t:Tk):Nat→List Int×Tk
 | 0=>([],t)
 | n+1=>((t.nums n).1++[(t.nums n).2.num.1],(t.nums n).2.num.2)
def evOf (num:Int)(ws:List Str):Ev×Bool :=
 let t1:=(⟨ws,false⟩:Tk).word
 match kindOf t1.1 with
 | none=>(⟨0,[],[],[],[]⟩,false)
 | some k =>
   let t2:=t1.2.names k.letters.length
   let t3:=t2.2.nums k.values
   (⟨num,t1.1,t2.1,t3.1,[]⟩,!t3.2.bad && decide (t3.2.ws.length=0))
def WsV (v:V)(ws:List Str):Prop:=(v=.nils∧ws=[])∨v=.sl ws.length 1 fun i=>[.str (el ws i)]
def Tk.next (t:Tk):V:=match t.ws with
 | []=>.nils
 | w::r=>if w=[] then .nils else .sl r.length 1 fun i=>[.str (el r i)]
theorem Tk.next_ok (t:Tk):WsV t.next t.word.2.ws:=by
 unfold Tk.next Tk.word
 split
 ·exact .inl ⟨rfl,rfl⟩
 ·split
  ·exact .inl ⟨rfl,rfl⟩
  ·exact .inr rfl
theorem pu_strsE (ws:List Str):Pu (.sl ws.length 1 fun i=>[.str (el ws i)]):=(qF ws).2 trivial
theorem Tk.next_pu (t:Tk):Pu t.next:=by
 unfold Tk.next
 split
 ·exact .nils
 ·split
  ·exact .nils
  ·exact pu_strsE _
theorem ziM (w:Str)(r:List Str)(i:Nat):el (w::r) (1+i)=el r i:=by
 rw[Nat.add_comm];rfl
theorem yV {H:Heap}{L:Loc}{a b:AObj}:updH (updH H L a) L b=updH H L b:=by
 funext l
 unfold updH
 split <;> rfl
theorem zbU (t:Tk):∀ n,(t.names n).1.length=n
 | 0=>rfl
 | n+1=>by show ((t.names n).1++[_]).length=n+1;rw[List.length_append,zbU t n];rfl
theorem zdP (t:Tk):∀ n,(t.nums n).1.length=n
 | 0=>rfl
 | n+1=>by show ((t.nums n).1++[_]).length=n+1;rw[List.length_append,zdP t n];rfl
def Tk.Ok (t:Tk):Prop:=t.ws.length≤1000000∧∀ w∈t.ws,w.length≤1000000
theorem Tk.Ok.word {t:Tk}(h:t.Ok):t.word.2.Ok∧t.word.1.length≤1000000:=by
 obtain⟨ws,bad⟩:=t
 cases ws with
 | nil=>exact⟨⟨Nat.zero_le _,fun w hw=>by cases hw⟩,Nat.zero_le _⟩
 | cons w r =>
   obtain⟨h1,h2⟩:=h
   unfold Tk.word
   simp only
   split
   ·exact⟨⟨Nat.zero_le _,fun w hw=>by cases hw⟩,Nat.zero_le _⟩
   ·exact⟨⟨by have h1:(w::r).length≤1000000:=h1;rw[List.length_cons] at h1;show r.length≤1000000;omega,fun x hx=>h2 x (List.mem_cons_of_mem _ hx)⟩,h2 w (List.mem_cons_self ..)⟩
theorem Tk.Ok.num {t:Tk}(h:t.Ok):t.num.2.Ok:=h.word.1
theorem Tk.Ok.names {t:Tk}(h:t.Ok):∀ n,(t.names n).2.Ok
 | 0=>h
 | n+1=>(h.names n).word.1
theorem Tk.Ok.nums {t:Tk}(h:t.Ok):∀ n,(t.nums n).2.Ok
 | 0=>h
 | n+1=>(h.nums n).num
def za6:Contract:=fun _ args=>⟨∃ n ws,args=[.int .i64 n,zg ws]∧(⟨ws,false⟩:Tk).Ok,
 .tup [.agg (encEv (evOf (wo (arg args 0)) (wL (arg args 1))).1),.bool (evOf (wo (arg args 0)) (wL (arg args 1))).2],none⟩
attribute [go_sem] za6
def yn (c:UInt8):Str→List Str
 | []=>[[]]
 | b::l=>if b=c then []::yn c l else match yn c l with
   | []=>[[b]]
   | x::r=>(b::x)::r
def zg4 (c:UInt8)(s:Str):Nat:=(Lib.indexByte s c).toNat
theorem za0 {c:UInt8}:∀ {s:Str},0 < s.count c→Lib.indexByte s c=zg4 c s∧zg4 c s < s.length∧yn c s=s.take (zg4 c s)::yn c (s.drop (zg4 c s+1))∧(s.drop (zg4 c s+1)).count c+1=s.count c
 | [],h=>by simp at h
 | b::l,h=>by
   by_cases e:b=c
   ·subst e
    have h0:Lib.indexByte (b::l) b=0:=by simp[Lib.indexByte]
    have h1:zg4 b (b::l)=0:=by unfold zg4;rw[h0];rfl
    refine⟨by rw[h0,h1];rfl,by rw[h1];simp,?_,?_⟩
    ·rw[h1];simp[yn]
    ·rw[h1];simp
   ·have hl:0 < l.count c:=by rw[List.count_cons_of_ne e] at h;exact h
    obtain⟨q1,q2,q3,q4⟩:=za0 hl
    have hb:(b == c)=false:=by simpa using e
    have hn:(Lib.indexByte l c == -1)=false:=by rw[q1];simp
    have h0:Lib.indexByte (b::l) c=Lib.indexByte l c+1:=by simp[Lib.indexByte,hb,hn]
    have h1:zg4 c (b::l)=zg4 c l+1:=by
     have:zg4 c (b::l)=(Lib.indexByte l c+1).toNat:=by rw[← h0];rfl
     rw[this,q1];rfl
    refine⟨by rw[h0,h1,q1];omega,by rw[h1];simp[q2],?_,?_⟩
    ·rw[h1]
     simp only[List.take_succ_cons,List.drop_succ_cons]
     rw[yn,if_neg e,q3]
    ·rw[h1,List.drop_succ_cons,q4,List.count_cons_of_ne e]
theorem zio {c:UInt8}:∀ {s:Str},s.count c=0→Lib.indexByte s c=-1∧yn c s=[s]
 | [],h=>⟨rfl,rfl⟩
 | b::l,h=>by
   by_cases e:b=c
   ·subst e;simp at h
   ·have hl:l.count c=0:=by rw[List.count_cons_of_ne e] at h;exact h
    obtain⟨q1,q2⟩:=zio hl
    have hb:(b == c)=false:=by simpa using e
    exact⟨by simp[Lib.indexByte,hb,q1],by rw[yn,if_neg e,q2]⟩
def jo (c:UInt8)(s:Str):Nat→Str
 | 0=>s
 | i+1=>(jo c s i).drop (zg4 c (jo c s i)+1)
def zlp (c:UInt8)(s:Str)(j:Nat):Str:=(jo c s j).take (zg4 c (jo c s j))
theorem qC {c:UInt8}{s:Str}:∀ {i:Nat},i≤s.count c→(jo c s i).count c+i=s.count c
 | 0,_=>rfl
 | i+1,h=>by
   have h1:=qC (c:=c) (s:=s) (i:=i) (by omega)
   have:=(za0 (c:=c) (s:=jo c s i) (by omega)).2.2.2
   show ((jo c s i).drop (zg4 c (jo c s i)+1)).count c+(i+1)=_
   omega
theorem zhG (c:UInt8)(s:Str):∀ i,(jo c s i).length≤s.length
 | 0=>Nat.le_refl _
 | i+1=>by
   have:=zhG c s i
   show ((jo c s i).drop _).length≤_
   rw[List.length_drop];omega
theorem zcG {c:UInt8}{s:Str}:∀ {i:Nat},i≤s.count c→yn c s=(List.range i).map (zlp c s)++yn c (jo c s i)
 | 0,_=>rfl
 | i+1,h=>by
   have h1:=qC (c:=c) (s:=s) (i:=i) (by omega)
   rw[zcG (i:=i) (by omega),(za0 (c:=c) (s:=jo c s i) (by omega)).2.2.1,List.range_succ,List.map_append]
   simp[zlp,jo]
theorem zeC (c:UInt8)(s:Str):yn c s=(List.range (s.count c)).map (zlp c s)++[jo c s (s.count c)]:=by
 rw[zcG (Nat.le_refl _)]
 congr 1
 exact(zio (by have:=qC (c:=c) (s:=s) (Nat.le_refl _);omega)).2
theorem zkx (c:UInt8)(s:Str):(yn c s).length=s.count c+1:=by rw[zeC];simp
theorem split_el {c:UInt8}{s:Str}{j:Nat}:el (yn c s) j=if j < s.count c then zlp c s j else if j=s.count c then jo c s (s.count c) else []:=by
 rw[zeC]
 unfold el
 rw[List.getD_eq_getElem?_getD]
 by_cases h:j < s.count c
 ·rw[if_pos h,List.getElem?_append_left (by simpa using h)]
  simp[h]
 ·rw[if_neg h,List.getElem?_append_right (by simpa using h)]
  by_cases e:j=s.count c
  ·subst e;simp
  ·rw[if_neg e]
   rw[List.getElem?_eq_none (by simp;omega)]
   rfl
def zgZ:Contract:=fun _ args=>⟨∃ s c,args=[.str s,.str [c]]∧s.length≤1000000000,.int .i64 (Lib.indexByte (zQ (arg args 0)) ((zQ (arg args 1)).getD 0 0)),none⟩
def zh6:Contract:=fun _ args=>⟨∃ s c,args=[.str s,.str [c]]∧s.length≤1000000000,.int .i64 ((zQ (arg args 0)).count ((zQ (arg args 1)).getD 0 0):Nat),none⟩
def za2:Contract:=fun _ args=>⟨∃ s c,args=[.str s,.str [c],.int .i64 0,.int .i64 (-1)]∧s.length≤1000000000,zg (yn ((zQ (arg args 1)).getD 0 0) (zQ (arg args 0))),none⟩
def zbB:Contract:=fun _ args=>⟨∃ s c,args=[.str s,.str [c]]∧s.length≤1000000000,zg (yn ((zQ (arg args 1)).getD 0 0) (zQ (arg args 0))),none⟩
attribute [go_sem] zgZ zh6 za2 zbB
inductive Qu | number | chain | map | eligible | late | money | matched
deriving DecidableEq,Inhabited
def Qu.all:List Qu:=[.number,.chain,.map,.eligible,.late,.money,.matched]
def Qu.str:Qu→Str
 | .number=>[110,117,109,98,101,114]
 | .chain=>[99,104,97,105,110]
 | .map=>[109,97,112]
 | .eligible=>[101,108,105,103,105,98,108,101]
 | .late=>[108,97,116,101]
 | .money=>[109,111,110,101,121]
 | .matched=>[109,97,116,99,104,101,100]
def Qu.of:Qu→Int
 | .number=>104 | .chain=>104 | .map=>109 | .eligible=>0 | .late=>100 | .money=>0 | .matched=>116
def zhJ (s:Str):Option Qu:=Qu.all.find? fun k=>decide (k.str=s)
def quVal (c:Qu→FuncId)(k:Qu):Value:=.agg #[.int .u8 k.of,.func (.func (c k)) #[] #[]]
def zeV (c:Qu→FuncId):List Qu→Nat→List MapEntry
 | [],_=>[]
 | k::l,i=>⟨.string ⟨k.str.toArray⟩,quVal c k,i⟩::zeV c l (i+1)
def quObj (c:Qu→FuncId):Obj:=.map (zeV c Qu.all 0).toArray 7
def quK (c:Qu→FuncId)(k:Qu):V:=.agg [.int .u8 k.of,.fn (.func (c k)) [] []]
def quZ:V:=.agg [.int .u8 0,.nilfn]
def quV (c:Qu→FuncId):Option Qu→V
 | some k=>quK c k
 | none=>quZ
theorem quV_some (c:Qu→FuncId)(k:Qu):quV c (some k)=quK c k:=rfl
theorem quV_none (c:Qu→FuncId):quV c none=quZ:=rfl
theorem zd7 (c:Qu→FuncId)(s:Str):∀ (l:List Qu) (i j:Nat),(Instr.findNow .string (.string ⟨s.toArray⟩) (zeV c l i) j).map (fun r=>r.map (·.2))=some ((l.find? fun k=>decide (k.str=s)).map (quVal c))
 | [],i,j=>rfl
 | k::l,i,j=>by
   unfold zeV Instr.findNow
   rw[zdu]
   by_cases h:k.str=s
   ·simp[h]
   ·have ih:=zd7 c s l (i+1) (j+1)
    simp only[h,decide_false,List.find?_cons,Bool.false_eq_true]
    exact ih
theorem quK_of (c:Qu→FuncId)(k:Qu):ofValue (quVal c k)=quK c k:=by
 unfold quVal ofValue quK
 simp[zaN]
theorem look_qu {P:Program}{t kt et:TypeId}(ht:P.underlying t=some (.map kt et))(hk:P.underlying kt=some .string)(hz:tzero P et=some quZ)(c:Qu→FuncId)(s:Str) :
 zcu P t (quObj c) s=some (quV c (zhJ s),(zhJ s).isSome):=by
 have h:=zd7 c s Qu.all 0 0
 unfold zcu quObj
 rw[ht]
 simp only[hk]
 have hkf:(Qu.all.find? fun k=>decide (k.str=s))=zhJ s:=rfl
 rw[hkf] at h
 cases hf:Instr.findNow .string (.string ⟨s.toArray⟩) (zeV c Qu.all 0) 0 with
 | none=>rw[hf] at h;cases h
 | some r =>
   rw[hf] at h
   simp only[Option.map_some,Option.some.injEq] at h
   cases r with
   | none =>
     simp only[Option.map_none] at h
     cases hkk:zhJ s with
     | some k=>rw[hkk] at h;cases h
     | none=>simp only[hz];rfl
   | some p =>
     obtain⟨i,v⟩:=p
     simp only[Option.map_some] at h
     cases hkk:zhJ s with
     | none=>rw[hkk] at h;cases h
     | some k =>
       rw[hkk] at h
       simp only[Option.map_some,Option.some.injEq] at h
       subst h
       simp only[quK_of]
       rfl
def quT (P:Program)(t:TypeId):Prop:=match P.underlying t with
 | some (.map kt et)=>P.underlying kt=some .string∧tzero P et=some quZ
 | _=>False
theorem quT_eq {P:Program}{t:TypeId}:quT P t=(match P.underlying t with
 | some (.map kt et)=>P.underlying kt=some .string∧tzero P et=some (.agg [.int .u8 0,.nilfn])
 | _=>False):=propext ⟨id,id⟩
theorem look_quT {P:Program}{t:TypeId}(h:quT P t)(c:Qu→FuncId)(s:Str):zcu P t (quObj c) s=some (quV c (zhJ s),(zhJ s).isSome):=by
 unfold quT at h
 split at h
 ·rename_i kt et ht
  exact look_qu ht h.1 h.2 c s
 ·exact h.elim
def zbL (c:Qu→FuncId):Contract:=fun _ args=>⟨args=[],.mapc (quObj c),none⟩
attribute [go_sem] quT_eq look_quT zbL quV_some quV_none quK quZ
def sNone:Str:=[110,111,110,101]
def joinN (l:List Str):Str:=if l.length=0 then sNone else Lib.join l [32]
structure AskPre (r:Reg) (q:Qu) (ws:List Str):Prop where
 rl:RL r
 last:LastOk r
 two:(q=.eligible∧ws=[]∧(joinN r.eligible).length≤1000000∧r.eligible.length≤1000000)∨∃ s,q=.number∧s≠[]∧ws=[s]∧s.length≤1000000∧s∉r.namesOf 104
def askS (r:Reg):Qu→Str×Int
 | .eligible=>(joinN r.eligible,0)
 | _=>([],10)
def zld:V→Qu
 | .agg [.int .u8 0,_]=>.eligible
 | _=>.number
def zg0:Contract:=fun _ args=>⟨∃ r s,args=[.cptr (zt r),.str s]∧RL r∧LastOk r,zg (wC (cellsOf (arg args 0))).eligible,none⟩
def askQC (f:Qu→FuncId):Contract:=fun _ args=>⟨∃ h q ws,args=[.cptr (zz h),quK f q,zg ws]∧AskPre h.now q ws,
 .tup [.str (askS (jk (cellsOf (arg args 0))).now (zld (arg args 1))).1,.int .i64 (askS (jk (cellsOf (arg args 0))).now (zld (arg args 1))).2],none⟩
def doS (h:Hist)(s:Str):Str×Int:=match zhJ (el (yn 32 s) 0) with
 | some q=>askS h.now q
 | none=>([],0)
def doQC:Contract:=fun _ args=>⟨∃ h s q,args=[.cptr (zz h),.str s]∧s≠[]∧s.length≤4096∧zhJ (el (yn 32 s) 0)=some q∧AskPre h.now q (yn 32 s).tail,
 .tup [.str (doS (jk (cellsOf (arg args 0))) (zQ (arg args 1))).1,.int .i64 (doS (jk (cellsOf (arg args 0))) (zQ (arg args 1))).2],none⟩
attribute [go_sem] zg0 askQC doQC
def logE (l:List Ev):Str:=Lib.join (l.map yT) []
def recsC (k:FuncId):Contract:=fun _ args=>⟨∃ l,args=[zf 5 encEv l,.fn (.func k) [] []]∧l.length≤1000000∧∀ e∈l,RecOk e,zg ((zi zI (arg args 0)).map yT),none⟩
def logC:Contract:=fun _ args=>⟨∃ h,args=[.cptr (zz h)]∧h.events.length≤1000∧∀ e∈h.events,RecOk e,.str (logE (jk (cellsOf (arg args 0))).events),none⟩
theorem zbH {e:Ev}(h:RecOk e):(yT e).length≤3000:=by
 have:=zac h
 have h2:(qV (zb2 e)).length=7:=by simp[qV]
 unfold yT
 simp only[List.length_append,List.length_cons,List.length_nil,h2]
 omega
def zdJ:Contract:=fun _ args=>⟨args=[.str []],.tup [.nils,.int .i64 0,.int .i64 0],none⟩
def app0C:Contract:=fun _ args=>⟨∃ e,args=[.str [],.agg (encEv e)]∧eventE e=0∧e.num=1∧EvB e,.tup [.str (yT (zI (cellsOf (arg args 1)))),.int .i64 0],none⟩
attribute [go_sem] recsC logC zdJ app0C
end Go.Fly.Off
end
