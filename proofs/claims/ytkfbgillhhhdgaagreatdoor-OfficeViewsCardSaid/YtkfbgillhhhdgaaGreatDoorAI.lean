/- Part of a proof. No conditions. -/
import Derived.Test.YtkfbgillhhhdgaaGreatDoorAH
set_option linter.unusedSimpArgs false
set_option linter.unusedVariables false
namespace Go.Fly
open Go
theorem zkV {cells:List V}{sz i:Nat}(h:cells.length=sz)(hi:i < 1):wa cells sz (0+i)=cells:=by
 obtain rfl:i=0:=by omega
 simp[wa,← h]
theorem snoc {f:Nat→List V}{cells:List V}{sz i j:Nat}(hl:cells.length=sz)(h:f i=cells)(hj:j < i+1):f j=if j < i then f j else wa cells sz (0+(j - i)):=by
 by_cases e:j < i
 ·rw[if_pos e]
 ·obtain rfl:j=i:=by omega
  rw[if_neg e,zkV hl (by omega),h]
theorem wG {cells:List V}{sz:Nat}(hl:cells.length=sz)(h:∀ v∈cells,Pu v∧jM v=true):∀ i,i < 1→∀ v,v∈wa cells sz (0+i)→(Pu v∨jg v=true)∧jM v=true :=
 fun i hi v hv=>by rw[zkV hl hi] at hv;exact⟨.inl (h v hv).1,(h v hv).2⟩
theorem zy.arr1 {hp:Heap}{l:Loc}{n n' sz sz':Nat}{get get':Nat→List V}(h:hp l=some (.arr n sz get))(hn:n=n')(hs:sz=sz')(hg:∀ i,i < n→get' i=get i):zy hp (updH (fun _=>Option.none) l (.arr n' sz' get')) :=
 zy.upd zy.none ⟨_,h,hn,hs,hg⟩
def rngs (n:Nat)(get:Nat→List V)(a b:Int):Int:=yZ (fun i=>rng (vR get i) a b) 0 n
def sumI (f:Nat→Int):Nat→Int
 | 0=>0
 | n+1=>sumI f n+f n
end Go.Fly
