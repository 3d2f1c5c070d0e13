/- Part of a proof. No conditions. -/
import Derived.Test.YtkfbgillhhhdgaaGreatDoorAQ
import Derived.Test.YtkfbgillhhhdgaaGreatDoorAL
import Derived.Test.YtkfbgillhhhdgaaGreatDoorAK
import Derived.KernelRfl
import Derived.Below
import Derived.Sort.Grow
import Derived.Deep.Draws
import Derived.Lib.Join
import Derived.Lib.ItoaLen
import Derived.Lib.LaidTab
set_option linter.unusedSimpArgs false
set_option linter.unusedVariables false
section
namespace Go.Fly
open Go
def absF (a:Nat):Nat:=(bitV .andNot .u64 (a:Int) 9223372036854775808).toNat
def nanF (a:Nat):Bool:=FloatKind.f64.format.order a a != some .eq
def infF (a:Nat):Bool:=FloatKind.f64.format.order (absF a) 9218868437227405311 == some .gt
def truncF (a:Nat):Nat:=FloatKind.f64.encode ((FloatKind.f64.decode a).integral .zero)
def NoNan (a:Nat):Prop:=∀ s t,FloatKind.f64.decode a≠.nan s t
def wholeE (x lo hi:Nat):Int:=err ((FloatKind.f64.format.order x lo == some .lt || FloatKind.f64.format.order x hi == some .gt) || FloatKind.f64.format.order x (truncF x) != some .eq) 3
def wildF (a:Nat):Bool:=nanF a || infF a
def impE (a b:Nat):Int:=zv [err (wildF a || wildF b) 1,wholeE a 0 4652007308841189376,wholeE b 13875379345695965184 4652007308841189376]
structure ImpOk (a b:Nat) (re im:Int):Prop where
 na:NoNan a
 nb:NoNan b
 chk:impE a b=0
 ra:(FloatKind.f64.decode a).toInt .zero=some re
 ib:(FloatKind.f64.decode b).toInt .zero=some im
 r0:0≤re
 r1:re≤1000
 i0:-1000≤im
 i1:im≤1000
 sub:∃ s t u,cpxSub a b 4607182418800017408 0=some (s,t)∧FloatKind.f64.format.add a 4607182418800017408=some u∧∃ p q,cpxMul s t u (Op.negFloat .f64 b)=some (p,q) ∧
  (FloatKind.f64.decode p).toInt .zero=some (re * re - 1+im * im)∧(FloatKind.f64.decode q).toInt .zero=some (2 * im)
end Go.Fly
end
section
namespace Go.Fly
open Go Go.RowKit Go.Sort
theorem Holds.of_calls {P:Program}{G:Nat→V}{f:FuncId}{C:Contract}(hobj:∀ rl args,(C rl args).obj=none)
 (h:∀ (rl:Loc) (args:List V) (w:World) (M:Nat→Prop) (vs:Array Value),(∀ g,R (yN w M) (G g) (.pointer (some ⟨g,0,none⟩)))→zae (yN w M) args vs→(C rl args).pre →
  Calls P f vs w fun e w'=>∃ rv,e=.returned rv∧Below w.heap.size w w'∧∀ k,R k (C rl args).val rv):Holds P G f C:=by
 intro rl args w M vs hlt hG hpu hargs hpre
 refine(h rl args w M vs hG hargs hpre).mono ?_
 rintro e w' ⟨rv,rfl,hb,hr⟩
 rw[hobj]
 refine⟨rv,none,rfl,⟨hb.os,hb.tape,hb.output,hb.size,fun b hb' _=>hb.block b hb',fun b=>?_,fun b _ hm=>?_,fun b _ _ hm=>.inl hm,fun l hl=>hl.elim,fun l hl=>hl.elim⟩,⟨fun b hm=>?_,fun b=>?_,fun l o ho=>?_,fun l l' b c c' o o' ho=>?_,fun l o ho=>?_⟩,hr _⟩
 ·rintro⟨l,o,c,h1,h2⟩
  simp[ql,zes] at h1
 ·rcases hm with q | q
  ·exact q
  ·exact absurd q.1 (by simp)
 ·rcases hm with q | q
  ·exact Nat.lt_of_lt_of_le (hlt b q) hb.size
  ·exact absurd q.1 (by simp)
 ·rintro⟨l,o,c,h1,h2⟩
  simp[ql,zes] at h1
 ·simp[ql,zes] at ho
 ·simp[ql,zes] at ho
 ·simp[ql,zes] at ho
theorem zkc (w:World)(k:Nat)(os:Array Obj):Below w.heap.size w (grow (w.drewN k) os) :=
 ⟨rfl,rfl,rfl,by simp[grow,World.drewN],fun i hi=>by simp[grow,World.drewN,Array.getElem?_append_left hi]⟩
def zeA (get:Nat→List V)(i:Nat):List UInt8:=match get i with
 | [.str s]=>s
 | _=>[]
def IsStrs (n:Nat)(get:Nat→List V):Prop:=n≤9223372036854775807∧∀ i,i < n→get i=[.str (zeA get i)]
def zfx (n:Nat)(get:Nat→List V)(sep:List UInt8):List UInt8:=Lib.join ((List.range n).map (zeA get)) sep
def ze4:Contract:=fun _ args =>
 match args with
 | [.int .i64 n]=>⟨-9223372036854775808≤n∧n≤9223372036854775807,.str (Lib.itoa n),none⟩
 | _=>⟨False,.top,none⟩
def zgS:Contract:=fun _ args =>
 match args with
 | [.sl n sz get,.str sep]=>⟨sz=1∧IsStrs n get∧n≤1000000∧(zfx n get sep).length≤140737488355328,.str (zfx n get sep),none⟩
 | _=>⟨False,.top,none⟩
attribute [go_sem] ze4 zgS
def In64 (n:Int):Prop:=-9223372036854775808≤n∧n≤9223372036854775807
theorem lens_le {l:List (List UInt8)}{m:Nat}(h:∀ x∈l,x.length≤m):Lib.lens l≤m * l.length:=by
 unfold Lib.lens
 induction l with
 | nil=>simp
 | cons x r ih =>
   have h1:=h x (by simp)
   have h2:=ih fun y hy=>h y (by simp[hy])
   simp only[List.map_cons,List.sum_cons,List.length_cons,Nat.mul_add,Nat.mul_one]
   omega
theorem zgR {l:List (List UInt8)}{sep:List UInt8}{m:Nat}(h:∀ x∈l,x.length≤m):(Lib.join l sep).length≤(sep.length+m) * l.length:=by
 cases l with
 | nil=>simp[Lib.join_nil]
 | cons x r =>
   rw[Lib.join_length]
   have h1:=lens_le h
   simp only[List.length_cons,Nat.mul_add,Nat.add_mul,Nat.mul_one] at h1 ⊢
   omega
theorem jR {n:Int}(h:In64 n):(Lib.itoa n).length≤21:=Lib.itoa_length_le n h.1 h.2
end Go.Fly
end
