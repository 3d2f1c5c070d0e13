/- Part of a proof. No conditions. -/
import Derived.Test.YtkfbgillhhhdgaaGreatDoorAS
import Derived.Test.YtkfbgillhhhdgaaGreatDoorAJ
set_option linter.unusedSimpArgs false
set_option linter.unusedVariables false
section
namespace Go.Fly.Off
open Go
def zb1 (s:Str):Nat→Int
 | 0=>11
 | i+1=>(397 * zb1 s i+(((s.getD i 0).toNat:Nat):Int)).tmod 9999943
theorem zcj (s:Str):∀ i,0≤zb1 s i∧zb1 s i≤9999942
 | 0=>by show (0:Int)≤11∧(11:Int)≤9999942;decide
 | i+1=>by
   have h:=zcj s i
   show 0≤(397 * zb1 s i+(((s.getD i 0).toNat:Nat):Int)).tmod 9999943∧(397 * zb1 s i+(((s.getD i 0).toNat:Nat):Int)).tmod 9999943≤9999942
   rw[Int.tmod_eq_emod_of_nonneg (by omega)]
   omega
def zh5 (x:Int):Nat→Int
 | 0=>x
 | i+1=>(zh5 x i).tdiv 10
theorem zed {x:Int}(h:0≤x∧x≤9999942):∀ i,0≤zh5 x i∧zh5 x i≤9999942
 | 0=>h
 | i+1=>by
   have q:=zed h i
   show 0≤(zh5 x i).tdiv 10∧(zh5 x i).tdiv 10≤9999942
   rw[Int.tdiv_eq_ediv_of_nonneg q.1]
   omega
def zg5 (x:Int)(i:Nat):Int:=48+(zh5 x i).tmod 10
def qV (s:Str):Str:=(List.range 7).map fun j=>UInt8.ofNat (zg5 (zb1 s s.length) (6 - j)).toNat
def ko:Contract:=fun _ args=>⟨∃ s,args=[.str s]∧s.length≤1000000,.str (qV (zQ (arg args 0))),none⟩
attribute [go_sem] ko
theorem w648:(64 < 8∧IntKind.u8.signed=true)=False:=eq_false (by decide)
theorem zn4 {x:Int}(h:0≤x∧x≤9999942)(i:Nat):48≤zg5 x i∧zg5 x i≤57:=by
 have:=zed h i
 unfold zg5
 rw[Int.tmod_eq_emod_of_nonneg this.1]
 omega
theorem wrap_dig {x:Int}(h:0≤x∧x≤9999942)(i:Nat):IntKind.u8.wrap (48+(zh5 x i).tmod 10)=zg5 x i:=by
 have q:=zn4 h i
 show IntKind.u8.wrap (zg5 x i)=zg5 x i
 simp[IntKind.wrap,IntKind.bits,IntKind.signed]
 omega
def digB (b:Nat):Bool:=decide (48≤b) && decide (b≤57)
def valN (s:Str):Nat→Int
 | 0=>0
 | i+1=>10 * valN s i+((wI s i:Nat) - 48)
theorem zko {s:Str}:∀ {i:Nat},(∀ j,j < i→digB (wI s j)=true)→0≤valN s i∧valN s i < 10 ^ i
 | 0,_=>⟨Int.le_refl _,by show (0:Int) < 10 ^ 0;decide⟩
 | i+1,h=>by
   have q:=zko (s:=s) (i:=i) fun j hj=>h j (by omega)
   have hd:=h i (by omega)
   simp only[digB,Bool.and_eq_true,decide_eq_true_eq] at hd
   show 0≤10 * valN s i+((wI s i:Nat) - 48)∧10 * valN s i+((wI s i:Nat) - 48) < 10 ^ (i+1)
   have e:(10:Int) ^ (i+1)=10 ^ i * 10:=Int.pow_succ 10 i
   rw[e]
   omega
theorem pow10_le:∀ i,i < 9→(10:Int) ^ i≤100000000:=by decide
def intE (s:Str):Int×Bool :=
 if (∀ i,i < s.length→digB (wI s i)=true)∧s.length≤9 then (valN s s.length,decide (0 < s.length) && (decide (s.length=1) || !decide (wI s 0=48))) else (0,false)
theorem zgX {s:Str}{i:Nat}(hi:i < s.length)(h:digB (wI s i)=false∨9 < s.length):intE s=(0,false):=by
 unfold intE
 rw[if_neg fun q=>by rcases h with h | h;rw[q.1 i hi] at h;cases h;omega]
def k9:Contract:=fun _ args=>⟨∃ s,args=[.str s]∧s.length≤9223372036854775807,.tup [.int .i64 (intE (zQ (arg args 0))).1,.bool (intE (zQ (arg args 0))).2],none⟩
attribute [go_sem] k9
end Go.Fly.Off
end
