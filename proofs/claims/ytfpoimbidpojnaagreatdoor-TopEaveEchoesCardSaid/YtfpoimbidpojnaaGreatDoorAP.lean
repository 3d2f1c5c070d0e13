/- Part of a proof: an evaluator of the model's code by abstract values, and plain laws for it. No conditions. -/
import Derived.Test.YtfpoimbidpojnaaGreatDoorAN
import Derived.Test.YtfpoimbidpojnaaGreatDoorAO
import Derived.MapKept
set_option linter.unusedSimpArgs false
set_option linter.unusedVariables false
/- More contracts of walls. -/
namespace Go.Fly
open Go
def capDetC : Contract := fun _ args =>
  match args with
  | [.agg [.int .i64 px, .int .i64 py], .cptr [.int .i64 sx, .int .i64 sy, .int .i64 sz], .cptr [.int .i64 low], .cptr [.int .i64 rx, .int .i64 ry, .int .i64 rz]] =>
    ⟨SpotOk sx sy sz ∧ SpotOk px py low ∧ SpotOk rx ry rz, .int .i64 (detLo sx sy sz px py low rx ry rz), none⟩
  | _ => ⟨False, .top, none⟩
attribute [go_sem] capDetC
/-- A key that no entry has. -/
theorem findNow_none {s : List UInt8} {l : List MapEntry} (h : ∀ e ∈ l, ∃ s', e.key = .string ⟨s'.toArray⟩ ∧ s' ≠ s) (i : Nat) : Instr.findNow .string (.string ⟨s.toArray⟩) l i = some none := by
  rcases MapKept.findNow_spec (d := .string) (k := .string ⟨s.toArray⟩) trivial l i (fun x hx => by obtain ⟨s', e, _⟩ := h x hx; rw [e]; trivial) with ⟨h1, _⟩ | ⟨j, e, _, h2, h3⟩
  · exact h1
  · obtain ⟨s', e', hne⟩ := h e (List.mem_of_getElem? h2)
    rw [e'] at h3
    exact absurd (by simpa using h3) hne
end Go.Fly
