/- Part of a proof: an evaluator of the model's code by abstract values, and plain laws for it. No conditions. -/
import Derived.Test.YtfcdodaakhlppaaGreatDoorSYTEn
import Derived.Test.YtfcdodaakhlppaaGreatDoorAG
set_option linter.unusedSimpArgs false
set_option linter.unusedVariables false
section
/- First errors, ranges, points. -/
set_option maxRecDepth 100000
namespace Go.Fly.Tryz
open Go

theorem dWhen_ok : Holds Proofs.Tryz.prog G0 255 whenC := by
  refine Holds.of_exC D255 Proofs.Tryz.func255 rfl foll (by kernel_rfl) (tab []) (tab_ok trivial) G0_ok fun k0 rl args hpu hpre => ?_
  unfold whenC at hpre ⊢
  split at hpre
  rotate_left
  · exact hpre.elim
  simp only [Proofs.Tryz.f255]
  simp (maxSteps := 4000000) only [go_sem, ↓upXAbsY]
  exact ⟨fun h => VEnt.of_eq (by simp [h, err]), fun h => VEnt.of_eq (by simp [h, err])⟩

theorem dWithin_ok : Holds Proofs.Tryz.prog G0 232 withinC := by
  refine Holds.of_exC D232 Proofs.Tryz.func232 rfl foll (by kernel_rfl) (tab [(255, whenC)]) (tab_ok ⟨dWhen_ok, trivial⟩) G0_ok fun k0 rl args hpu hpre => ?_
  unfold withinC at hpre ⊢
  split at hpre
  rotate_left
  · exact hpre.elim
  simp only [Proofs.Tryz.f232]
  simp (maxSteps := 4000000) only [go_sem, ↓upXAbsY]
  exact ⟨fun h => VEnt.of_eq (by simp [h, err, rng]), fun h => VEnt.of_eq (by simp [h, err, rng])⟩

theorem dEnergy_ok : Holds Proofs.Tryz.prog G0 202 (int1C (fun n => rng n 0 10000000000000)) := by
  refine Holds.of_exC D202 Proofs.Tryz.func202 rfl foll (by kernel_rfl) (tab [(232, withinC)]) (tab_ok ⟨dWithin_ok, trivial⟩) G0_ok fun k0 rl args hpu hpre => ?_
  unfold int1C at hpre ⊢
  split at hpre
  rotate_left
  · exact hpre.elim
  simp only [Proofs.Tryz.f202]
  simp (maxSteps := 4000000) only [go_sem, ↓upXAbsY]
  exact VEnt.of_eq rfl

end Go.Fly.Tryz
end
section
/- Intervals, layers, airs, paths, energies: their errors. -/
set_option maxRecDepth 100000
namespace Go.Fly.Tryz
open Go

end Go.Fly.Tryz
end
