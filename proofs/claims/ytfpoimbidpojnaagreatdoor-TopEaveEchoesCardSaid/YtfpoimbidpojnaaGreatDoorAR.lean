/- Part of a proof: an evaluator of the model's code by abstract values, and plain laws for it. No conditions. -/
import Derived.Test.YtfpoimbidpojnaaGreatDoorAO
set_option linter.unusedSimpArgs false
set_option linter.unusedVariables false
/- Loops in loops: what an inner loop writes is written by the outer one. -/
namespace Go.Fly
open Go
def covD : Nat → Nat → List (Nat × Nat) → Prop
  | _, _, [] => False
  | a, b, (c, d) :: l => (c ≤ a ∧ b ≤ d) ∨ covD a b l
def subD : List (Nat × Nat) → List (Nat × Nat) → Prop
  | [], _ => True
  | (a, b) :: l, dead => covD a b dead ∧ subD l dead
theorem covD_nil {a b : Nat} : covD a b [] = False := propext ⟨id, id⟩
theorem covD_cons {a b c d : Nat} {l : List (Nat × Nat)} : covD a b ((c, d) :: l) = ((c ≤ a ∧ b ≤ d) ∨ covD a b l) := propext ⟨id, id⟩
theorem subD_nil {dead : List (Nat × Nat)} : subD [] dead = True := propext ⟨fun _ => trivial, fun _ => trivial⟩
theorem subD_cons {a b : Nat} {l dead : List (Nat × Nat)} : subD ((a, b) :: l) dead = (covD a b dead ∧ subD l dead) := propext ⟨id, id⟩
theorem covD_in {a b e : Nat} (h1 : a ≤ e) (h2 : e ≤ b) : ∀ {l : List (Nat × Nat)}, covD a b l → inD l e
  | [], h => h.elim
  | (c, d) :: l, h => by
    rcases h with h | h
    · exact .inl ⟨Nat.le_trans h.1 h1, Nat.le_trans h2 h.2⟩
    · exact .inr (covD_in h1 h2 h)
theorem subD_in {dead : List (Nat × Nat)} {e : Nat} : ∀ {l : List (Nat × Nat)}, subD l dead → inD l e → inD dead e
  | [], _, h => h.elim
  | (a, b) :: l, h, h2 => by
    rcases h2 with h2 | h2
    · exact covD_in h2.1 h2.2 h.1
    · exact subD_in h.2 h2
theorem Off.sub {n : Nat} {l dead : List (Nat × Nat)} {g f : Nat → V} (h : subD l dead) : Off n dead (topF l g) f = Off n dead g f := by
  apply propext
  constructor
  · intro q e hn he
    rw [← q e hn he, topF_out fun r => he (subD_in h r)]
  · intro q e hn he
    rw [topF_out fun r => he (subD_in h r)]; exact q e hn he
attribute [go_sem] covD_nil covD_cons subD_nil subD_cons Off.sub
end Go.Fly
