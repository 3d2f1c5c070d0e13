/- Part of a proof: an evaluator of the model's code by abstract values, and plain laws for it. No conditions. -/
import Derived.Test.YtfpoimbidpojnaaDoorAN
import Derived.Test.YtfpoimbidpojnaaDoorAL
set_option linter.unusedSimpArgs false
set_option linter.unusedVariables false
/- Copies of airs by a function; how fast layers are. -/
namespace Go.Fly
open Go
/-- A function over layers: the opposite winds, or a copy. -/
def mapLayC (g1 g2 : FuncId) : Contract := fun rl args =>
  match args with
  | [.sl n sz get, .fn (.func g) [] []] => ⟨sz = 5 ∧ IsAir n get ∧ (g = g1 ∨ g = g2) ∧ n ≤ 1000000 ∧ ∀ i, i < n → inN get i 4 ≤ 1000000 ∧ (-1000 ≤ cell get i 2 ∧ cell get i 2 ≤ 1000) ∧ (-1000 ≤ cell get i 3 ∧ cell get i 3 ≤ 1000),
      .msl rl 0 n, some (.arr n 5 (if g = g1 then revG get else get))⟩
  | _ => ⟨False, .top, none⟩
def dirPC : Contract := fun _ args =>
  match args with
  | [.agg [.int .i64 a, .int .i64 b, .int .i64 c, .int .i64 d, .int .i64 e, .int .i64 f]] => ⟨(-10000 ≤ a ∧ a ≤ 10000) ∧ (-10000 ≤ b ∧ b ≤ 10000) ∧ (-10000 ≤ d ∧ d ≤ 10000) ∧ (-10000 ≤ e ∧ e ≤ 10000), .agg [.int .i64 (d - a), .int .i64 (e - b)], none⟩
  | _ => ⟨False, .top, none⟩
attribute [go_sem] mapLayC dirPC
theorem ones5 {a b c d : Int} {m : Nat} {g : Nat → List V} (h : Pu (.sl m 2 g)) : ∀ v ∈ [V.int .i64 a, V.int .i64 b, V.int .i64 c, V.int .i64 d, V.sl m 2 g], Pu v ∧ oneC v = true := fun v hv => by
  simp only [List.mem_cons, List.not_mem_nil, or_false] at hv
  rcases hv with rfl | rfl | rfl | rfl | rfl
  · exact ⟨.int _ _, rfl⟩
  · exact ⟨.int _ _, rfl⟩
  · exact ⟨.int _ _, rfl⟩
  · exact ⟨.int _ _, rfl⟩
  · exact ⟨h, rfl⟩
/-- The speeds and winds of a valid air. -/
theorem airE_wind {n : Nat} {get : Nat → List V} (h : airE n get = 0) {i : Nat} (hi : i < n) : (1 ≤ cell get i 1 ∧ cell get i 1 ≤ 2000) ∧ (-100 ≤ cell get i 2 ∧ cell get i 2 ≤ 100) ∧ (-100 ≤ cell get i 3 ∧ cell get i 3 ≤ 100) := by
  have hok := airE_ok h
  unfold airE at h
  have h0 : airE0 n = 0 := airE0_zero.2 hok.cnt
  simp only [h0, ne_eq, not_true_eq_false, if_false] at h
  have hl := firstI_zero.1 h i (Nat.zero_le _) (by omega)
  unfold layAt layerE at hl
  by_cases h1 : layerE1 (cell get i 0) (cell get i 1) (cell get i 2) (cell get i 3) = 0
  · unfold layerE1 at h1
    rw [firstL_zero] at h1
    simp only [List.mem_cons, List.not_mem_nil, or_false, forall_eq_or_imp, forall_eq, rng_zero] at h1
    exact ⟨h1.2.1, h1.2.2.1, h1.2.2.2⟩
  · simp only [ne_eq, h1, not_false_eq_true, if_true] at hl
theorem checkE_zero {n : Nat} {get : Nat → List V} {a b c d e f : Int} : checkE n get a b c d e f = 0 ↔ airE n get = 0 ∧ PathOk a b c d e f := by
  unfold checkE
  rw [firstL_zero]
  simp only [List.mem_cons, List.not_mem_nil, or_false, forall_eq_or_imp, forall_eq, pathE_zero]
/-- What is reckoned of two layers stays small. -/
theorem fast_bd {s u v ax ay : Int} (h1 : -2000 ≤ s ∧ s ≤ 2000) (h2 : -200 ≤ u ∧ u ≤ 200) (h3 : -200 ≤ v ∧ v ≤ 200) (h4 : -20000 ≤ ax ∧ ax ≤ 20000) (h5 : -20000 ≤ ay ∧ ay ≤ 20000) :
    (-4000000 ≤ u * ax ∧ u * ax ≤ 4000000) ∧ (-4000000 ≤ v * ay ∧ v * ay ≤ 4000000) ∧ (0 ≤ s * s ∧ s * s ≤ 4000000) ∧ (0 ≤ ax * ax ∧ ax * ax ≤ 400000000) ∧ (0 ≤ ay * ay ∧ ay * ay ≤ 400000000) ∧
    (0 ≤ s * s * (ax * ax + ay * ay) ∧ s * s * (ax * ax + ay * ay) ≤ 3200000000000000) ∧ (0 ≤ (u * ax + v * ay) * (u * ax + v * ay) ∧ (u * ax + v * ay) * (u * ax + v * ay) ≤ 64000000000000) := by
  have a1 := mul_abs_le (A := 200) (B := 20000) h2.1 h2.2 h4.1 h4.2
  have a2 := mul_abs_le (A := 200) (B := 20000) h3.1 h3.2 h5.1 h5.2
  have a3 := sq_bd (k := 2000) h1
  have a4 := sq_bd (k := 20000) h4
  have a5 := sq_bd (k := 20000) h5
  have a6 := mul_le_of (A := 4000000) (B := 800000000) (a := s * s) (b := ax * ax + ay * ay) a3.1 (by omega) (by omega) (by omega)
  have a7 := sq_bd (k := 8000000) (n := u * ax + v * ay) (by omega)
  omega
theorem fast_cases (sp w : Int) : ∃ a b : Bool, decide (sp < 0) = a ∧ decide (w < 0) = b ∧ ((a = true ∧ b = true) ∨ (a = true ∧ b = false) ∨ (a = false ∧ b = true) ∨ (a = false ∧ b = false)) := by
  refine ⟨_, _, rfl, rfl, ?_⟩
  cases decide (sp < 0) <;> cases decide (w < 0) <;> simp
end Go.Fly
