/- Part of a proof. No conditions. -/
import Derived.Test.YtkfbgillhhhdgaaGreatDoorAI
set_option linter.unusedSimpArgs false
set_option linter.unusedVariables false
namespace Go.Fly
open Go
def letB (c:Nat):Bool:=(decide (65≤c) && decide (c≤90)) || (decide (97≤c) && decide (c≤122))
def othB (c:Nat):Bool:=(decide (48≤c) && decide (c≤57)) || decide (c=95)
def chB (i c:Nat):Bool:=letB c || (!decide (i=0) && othB c)
def wI (s:List UInt8)(i:Nat):Nat:=(s.getD i 0).toNat
def nameB (s:List UInt8):Bool:=decide (0 < s.length) && decide (s.length≤24) && decide (∀ i,i < s.length→chB i (wI s i)=true)
theorem zcX {s:List UInt8}(h1:0 < s.length)(h2:s.length≤24)(h:∀ i,i < s.length→chB i (wI s i)=true):nameB s=true:=by
 simp[nameB,h1,h2];exact h
theorem kU {s:List UInt8}(h:¬ (0 < s.length∧s.length≤24)):nameB s=false:=by
 simp[nameB];omega
theorem zia {s:List UInt8}{i:Nat}(hi:i < s.length)(h:chB i (wI s i)=false):nameB s=false:=by
 cases q:nameB s with
 | false=>rfl
 | true =>
   simp only[nameB,Bool.and_eq_true,decide_eq_true_eq] at q
   rw[q.2 i hi] at h
   cases h
def zgH:Contract:=fun _ args =>
 match args with
 | [.str s]=>⟨s.length≤9223372036854775807,.bool (nameB s),none⟩
 | _=>⟨False,.top,none⟩
def qM:Contract:=fun _ args =>
 match args with
 | [.str s]=>⟨s.length≤9223372036854775807,.int .i64 (err (!nameB s) 8),none⟩
 | _=>⟨False,.top,none⟩
attribute [go_sem] zgH qM
theorem zcc {s:List UInt8}{pos:Nat}(h:pos < s.length)(ha:wI s pos < 128):Utf8.decode ⟨s.toArray⟩ pos=(wI s pos,1):=by
 have h':pos < (⟨s.toArray⟩:ByteArray).size:=by simpa [ByteArray.size] using h
 have e:(⟨s.toArray⟩:ByteArray)[pos]'h'=s.getD pos 0:=by
  show s.toArray[pos]'_=_
  simp[h]
 have:=decode_ascii ⟨s.toArray⟩ pos h' (by rw[e];exact ha)
 rw[this,e]
 rfl
theorem zfR {s:List UInt8}{pos:Nat}(h:pos < s.length)(ha:128≤wI s pos):128≤(Utf8.decode ⟨s.toArray⟩ pos).1:=by
 have e:((⟨s.toArray⟩:ByteArray).get! (pos+0)).toNat=wI s pos:=by
  show (s.toArray.getD pos default).toNat=_
  simp[wI,h]
 unfold Utf8.decode
 simp only[e]
 rw[if_neg (by omega)]
 repeat' split
 all_goals first | (simp[Utf8.runeError];done) | omega | skip
 all_goals (rename_i hh;simp only[Bool.and_eq_true,decide_eq_true_eq,ge_iff_le] at hh;simp only;omega)
end Go.Fly
