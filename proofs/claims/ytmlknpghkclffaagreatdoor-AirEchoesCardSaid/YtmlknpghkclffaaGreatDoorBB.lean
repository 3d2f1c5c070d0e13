/- Part of a proof: an evaluator of the model's code by abstract values, and plain laws for it. No conditions. -/
import Derived.Test.YtmlknpghkclffaaGreatDoorBA
import Derived.Test.YtmlknpghkclffaaGreatDoorAK
set_option linter.unusedSimpArgs false
set_option linter.unusedVariables false
/- What explains what is heard: what the law's walk needs. -/
namespace Go.Fly
open Go
theorem nbf : (!(false == false)) = false := rfl
theorem nbt : (!(true == true)) = false := rfl
theorem frz_clr {H : Heap} {L : Loc} {n : Nat} {get : Nat → List V} {nu : Nat → Loc} (hL : H L = some (.arr n 5 (ownRow get nu))) (hN : ∀ j, j < n → H (nu j) = some (.arr (inN get j 4) 2 (clrP (inG get j 4)))) : VEnt (frz 5 H (.msl L 0 n)) (.sl n 5 (clrG get)) := by
  rw [frzM hL rfl]
  refine VEnt.sl fun i hi => ?_
  have hnp : ¬ ∀ v ∈ ownRow get nu i, Pu v := fun q => by
    have := q (.msl (nu i) 0 (inN get i 4)) (by simp [ownRow])
    cases this
  unfold frzRow
  rw [if_neg hnp]
  simp only [ownRow, List.map_cons, List.map_nil, frzI, frzM (hN i hi) rfl, clrG]
  have : (fun c => frzRow (frz 3 H) (clrP (inG get i 4) c)) = clrP (inG get i 4) := funext fun c => frzRow_pu fun v hv => (ones2 v hv).1
  rw [this]
/-- What can have been emitted, if some energy explains it. -/
theorem em3E_ok {n : Nat} {get : Nat → List V} {a b c d e f : Int} (hce : checkE n get a b c d e f = 0) {lo hi : Nat → Int} (h : ∀ i, i < inN get 0 4 → 0 ≤ lo i ∧ lo i ≤ hi i ∧ hi i ≤ 10000000000000)
    (hm : ∀ i, i < inN get 0 4 → emLo (lo i) (dHi n get a b c d e f i) ≤ emHi (hi i) (dLo n get a b c d e f i)) : em3E n get a b c d e f (inN get 0 4) (fun i => [.int .i64 (lo i), .int .i64 (hi i)]) = 0 := by
  have h1 : hrdE (inN get 0 4) (fun i => [.int .i64 (lo i), .int .i64 (hi i)]) (inN get 0 4) = 0 := by
    refine firstL_zero.2 fun z hz => ?_
    simp only [List.mem_cons, List.not_mem_nil, or_false] at hz
    rcases hz with rfl | rfl
    · rw [err_zero (by decide)]; simp
    · rw [firstI_zero]
      intro i _ hi2
      exact ivE_zero.2 (h i (by omega))
  unfold em3E
  rw [if_neg (by simp [hce]), if_neg (by simp [h1]), if_pos]
  refine idxF_none fun j hj => ?_
  have := hm j hj
  rw [Nat.zero_add]
  exact decide_eq_false (by show ¬ emHi (hi j) _ < emLo (lo j) _; omega)
end Go.Fly
