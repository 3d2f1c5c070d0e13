/- Part of a proof: an evaluator of the model's code by abstract values, and plain laws for it. No conditions. -/
import Derived.Test.YtkfbgillhhhdgaaGreatDoorBA
import Derived.Test.YtkfbgillhhhdgaaGreatDoorAS
import Derived.Test.YtkfbgillhhhdgaaGreatDoorAY
import Derived.Test.YtkfbgillhhhdgaaGreatDoorAQ
set_option linter.unusedSimpArgs false
set_option linter.unusedVariables false
section
/- Names are told apart; contracts of the reference's questions. -/
namespace Go.Fly.Off
open Go
structure UqR (r:Reg):Prop where
 ty:(r.types.map (·.name)).Nodup
 ho:(r.houses.map (·.name)).Nodup
 fl:(r.flights.map (·.name)).Nodup
 mp:(r.maps.map (·.name)).Nodup
 of:(r.offers.map (·.name)).Nodup
 co:(r.complaints.map (·.name)).Nodup
end Go.Fly.Off
end
section
/- The laws on the office: what they are asked; further contracts of the reference. -/
namespace Go.Fly.Off
open Go
def JouLen (l:List Ev):Prop:=l.length≤9223372036854775807∧∀ e∈l,EvLen e
def zm4:Contract:=fun _ args=>⟨∃ l e,args=[zf 5 encEv l,.agg (encEv e)]∧JouLen l∧EvLen e,.bool true,none⟩
attribute [go_sem] zm4
/-! Lists that are the same, one of them perhaps nil. -/
/-! The laws. -/
end Go.Fly.Off
end
