/- Part of a proof. No conditions. -/
import Derived.Test.YtkfbgillhhhdgaaGreatDoorAJ
set_option linter.unusedSimpArgs false
set_option linter.unusedVariables false
section
namespace Go.Fly
open Go
def zhr (n:Nat)(g:Nat→List V):Int:=zv [err (decide ((n:Int)=0)) 12,err (decide (8 < (n:Int))) 5,rngs n g 0 1000]
def sharesE (n:Nat)(g:Nat→List V):Int:=if zhr n g≠0 then zhr n g else err (!decide (sumI (vR g) n=1000)) 1
def sqBad (g:Nat→List V)(i:Nat):Bool:=if i=0 then !decide (vR g 0=0) else decide (vR g i≤vR g (i - 1))
def zeB (n:Nat)(g:Nat→List V):Int:=zv [err (decide ((n:Int)=0)) 12,err (decide (8 < (n:Int))) 5,rngs n g 0 100000000000]
def squaresE (n:Nat)(g:Nat→List V):Int:=if zeB n g≠0 then zeB n g else yZ (fun i=>err (sqBad g i) 11) 0 n
def enBad (g:Nat→List V)(i k:Nat):Bool :=
 (decide (0 < k) && decide (vR (inG g i 1) (k - 1) < vR (inG g i 1) k)) || (decide (0 < i) && decide (vR (inG g i 1) k < vR (inG g (i - 1) 1) k))
def setE0 (nq:Nat)(g:Nat→List V)(i:Nat):Int :=
 zv [rng (cell g i 0) 1 100,err (decide (0 < i) && decide (cell g i 0≤cell g (i - 1) 0)) 11,err (!decide ((inN g i 1:Int)=(nq:Int))) 2,rngs (inN g i 1) (inG g i 1) 0 100000000]
def setE (nq:Nat)(g:Nat→List V)(i:Nat):Int:=if setE0 nq g i≠0 then setE0 nq g i else yZ (fun k=>err (enBad g i k) 21) 0 (inN g i 1)
structure TypeOk (s:List UInt8) (ns:Nat) (gs:Nat→List V) (d:Nat→Int) (side:Int) (nq:Nat) (gq:Nat→List V) (m:Nat) (gt:Nat→List V):Prop where
 name:nameB s=true
 shares:sharesE ns gs=0
 dir:∀ k,k < 8→0≤d k∧d k≤2000
 sideOk:0≤side∧side≤1000
 squares:squaresE nq gq=0
 cnt:0 < m∧m≤6
 set:∀ i,i < m→setE nq gt i=0
theorem cast0:((0:Nat):Int)=0:=rfl
attribute [go_sem] List.foldl_cons List.foldl_nil cast0 Int.reduceAdd Int.reduceSub Int.reduceMul Int.reduceNeg Int.reduceLT Int.reduceLE Int.reduceEq decide_true decide_false
end Go.Fly
end
section
set_option maxRecDepth 20000
namespace Go.Fly
open Go Ieee
end Go.Fly
end
section
namespace Go.Fly
open Go
theorem zfj {a b A B:Int}(h0:0≤a)(h1:a≤A)(h2:0≤b)(h3:b≤B):0≤a * b∧a * b≤A * B :=
 ⟨Int.mul_nonneg h0 h2,Int.mul_le_mul h1 h3 h2 (by omega)⟩
def vE (r:Int):Int:=match r.toNat with
 | 0=>10 | 1=>13 | 2=>16 | 3=>20 | 4=>25 | 5=>32 | 6=>40 | 7=>50 | 8=>63 | _=>79
def zhp (l:Int):Int:=vE (l % 10) * 10 ^ (l / 10).toNat
def levE (e:Int):Nat→Int→Int
 | 0,k=>k
 | n+1,k=>if zhp (k+1)≤e then levE e n (k+1) else k
def levelE (e:Int):Int:=levE e 121 (-1)
theorem zgP (e:Int):∀ (n:Nat) (k:Int),k≤levE e n k
 | 0,k=>Int.le_refl _
 | n+1,k=>by
   unfold levE
   split
   ·have:=zgP e n (k+1);omega
   ·exact Int.le_refl _
def thrC:Contract:=fun _ args =>
 match args with
 | [.int .i64 l]=>⟨0≤l∧l≤120,.int .i64 (zhp l),none⟩
 | _=>⟨False,.top,none⟩
def zdX:Contract:=fun _ args =>
 match args with
 | [.int .i64 e]=>⟨True,.int .i64 (levelE e),none⟩
 | _=>⟨False,.top,none⟩
def zdW:Contract:=fun _ args =>
 match args with
 | [.int .i64 e]=>⟨0≤e∧e≤10000000000000,.tup [.int .i64 (levelE e),.int .i64 0],none⟩
 | _=>⟨False,.top,none⟩
attribute [go_sem] thrC zdX zdW
end Go.Fly
end
