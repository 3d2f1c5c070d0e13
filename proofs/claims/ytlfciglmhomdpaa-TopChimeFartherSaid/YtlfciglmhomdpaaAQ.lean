/- Part of a proof: an evaluator of the model's code by abstract values, and plain laws for it. No conditions. -/
import Derived.Test.YtlfciglmhomdpaaAP
set_option linter.unusedSimpArgs false
set_option linter.unusedVariables false
/- A path and its way back; what fits. -/
namespace Go.Fly
open Go

theorem fitsB_iff {s : List UInt8} {ns : Nat} {gs : Nat → List V} {d : Nat → Int} {side : Int} {nq : Nat} {gq : Nat → List V} {m : Nat} {gt : Nat → List V} {n : Nat} {get : Nat → List V} {x y z hx hy p ax ay az : Int} :
    fitsB s ns gs d side nq gq m gt n get x y z hx hy p ax ay az = true ↔ shortB s ns nq m gt = true ∧ typeE s ns gs d side nq gq m gt = 0 ∧ shortAirB n get = true ∧ airE n get = 0 ∧ inN get 0 4 = ns ∧ stateE x y z hx hy p = 0 ∧
      (-2000 ≤ x ∧ x ≤ 2000) ∧ (-2000 ≤ y ∧ y ≤ 2000) ∧ (-2000 ≤ ax ∧ ax ≤ 2000) ∧ (-2000 ≤ ay ∧ ay ≤ 2000) ∧ z ≤ 2000 ∧ (-z).tdiv 2 ≤ az ∧ az ≤ 2000 ∧ ¬ (ax = 0 ∧ ay = 0 ∧ az = 0) := by
  simp only [fitsB, fitNum, Bool.and_eq_true, decide_eq_true_eq, Bool.not_eq_true', Bool.and_eq_false_iff, decide_eq_false_iff_not, and_assoc, ← Classical.not_and_iff_not_or_not]
theorem stateE_zero {x y z hx hy p : Int} : stateE x y z hx hy p = 0 ↔ PlaceOk x y z ∧ DirOk hx hy ∧ 1 ≤ p ∧ p ≤ 100 := by
  unfold stateE pointE dirE PlaceOk DirOk
  rw [firstL_zero]
  simp only [List.mem_cons, List.not_mem_nil, or_false, forall_eq_or_imp, forall_eq, firstL_zero, rng_zero]
/-- What fits, in plain words. -/
theorem fits_use {s : List UInt8} {ns : Nat} {gs : Nat → List V} {d : Nat → Int} {side : Int} {nq : Nat} {gq : Nat → List V} {m : Nat} {gt : Nat → List V} {n : Nat} {get : Nat → List V} {x y z hx hy p ax ay az : Int}
    (h : fitsB s ns gs d side nq gq m gt n get x y z hx hy p ax ay az = true) :
    TypeOk s ns gs d side nq gq m gt ∧ airE n get = 0 ∧ inN get 0 4 = ns ∧ PlaceOk x y z ∧ DirOk hx hy ∧ (1 ≤ p ∧ p ≤ 100) ∧ (-2000 ≤ x ∧ x ≤ 2000) ∧ (-2000 ≤ y ∧ y ≤ 2000) ∧ (-2000 ≤ ax ∧ ax ≤ 2000) ∧ (-2000 ≤ ay ∧ ay ≤ 2000) ∧ z ≤ 2000 ∧ -(z / 2) ≤ az ∧ az ≤ 2000 ∧ ¬ (ax = 0 ∧ ay = 0 ∧ az = 0) := by
  obtain ⟨-, h2, -, h4, h5, h6, h7, h8, h9, h10, h11, h12, h13, h14⟩ := fitsB_iff.1 h
  obtain ⟨g1, g2, g3⟩ := stateE_zero.1 h6
  have hz := g1.2.2
  have hzd : (-z).tdiv 2 = -(z / 2) := by rw [Int.neg_tdiv, Int.tdiv_eq_ediv_of_nonneg (by omega)]
  rw [hzd] at h12
  exact ⟨typeE_zero.1 h2, h4, h5, g1, g2, g3, h7, h8, h9, h10, h11, h12, h13, h14⟩

theorem sqE_sym (a b c d e f : Int) : sqE d e f a b c = sqE a b c d e f := by
  have h : ∀ u v : Int, (u - v) * (u - v) = (v - u) * (v - u) := fun u v => by
    rw [show u - v = -(v - u) by omega, Int.neg_mul_neg]
  unfold sqE
  rw [h a d, h b e, h c f]
theorem part_sym {n : Nat} {get : Nat → List V} {c f : Int} {i : Nat} : partE n get (min f c) (max f c) f i = partE n get (min c f) (max c f) c i := by
  have h1 : min f c = min c f := by omega
  have h2 : max f c = max c f := by omega
  rw [h1, h2]
  unfold partE
  by_cases h : max c f - min c f = 0
  · have : f = c := by omega
    rw [this]
  · rw [if_neg h, if_neg h]
theorem stepLo_sym {n : Nat} {get : Nat → List V} {sq c f : Int} {i : Nat} : stepLo n get sq (min f c) (max f c) f i = stepLo n get sq (min c f) (max c f) c i := by
  have h1 : min f c = min c f := by omega
  have h2 : max f c = max c f := by omega
  unfold stepLo
  rw [part_sym, h1, h2]
theorem stepHi_sym {n : Nat} {get : Nat → List V} {sq c f : Int} {i : Nat} : stepHi n get sq (min f c) (max f c) f i = stepHi n get sq (min c f) (max c f) c i := by
  have h1 : min f c = min c f := by omega
  have h2 : max f c = max c f := by omega
  unfold stepHi
  rw [part_sym, h1, h2]
theorem pLo_sym {n : Nat} {get : Nat → List V} (a b c d e f : Int) (k : Nat) : pLo n get d e f a b c k = pLo n get a b c d e f k := by
  unfold pLo
  have : (fun i => stepHi n get (sqE d e f a b c) (min f c) (max f c) f i) = fun i => stepHi n get (sqE a b c d e f) (min c f) (max c f) c i := funext fun i => by rw [sqE_sym, stepHi_sym]
  rw [this]
theorem pHi_sym {n : Nat} {get : Nat → List V} (a b c d e f : Int) (k : Nat) : pHi n get d e f a b c k = pHi n get a b c d e f k := by
  unfold pHi
  have : (fun i => stepLo n get (sqE d e f a b c) (min f c) (max f c) f i) = fun i => stepLo n get (sqE a b c d e f) (min c f) (max c f) c i := funext fun i => by rw [sqE_sym, stepLo_sym]
  rw [this]
theorem PathOk.back {a b c d e f : Int} (h : PathOk a b c d e f) : PathOk d e f a b c := ⟨h.2.1, h.1, fun q => h.2.2 ⟨q.1.symm, q.2.1.symm, q.2.2.symm⟩⟩
end Go.Fly
