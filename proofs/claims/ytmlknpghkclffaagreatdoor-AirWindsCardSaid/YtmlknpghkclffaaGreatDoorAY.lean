/- Part of a proof: an evaluator of the model's code by abstract values, and plain laws for it. No conditions. -/
import Derived.Test.YtmlknpghkclffaaGreatDoorAW
set_option linter.unusedSimpArgs false
set_option linter.unusedVariables false
/- The reference's winds and rays. -/
namespace Go.Fly
open Go
def sgnE (n : Int) : Int := if 0 < n then 1 else if n < 0 then -1 else 0
def cmpR (s w d : Int) : Int := if 0 ≤ sgnE s * sgnE w then sgnE (sgnE s + sgnE w) else sgnE s * sgnE (s * s * d - w * w)
theorem sq_zero {x : Int} (h : x ≠ 0) : 0 < x * x := by
  rcases Int.lt_or_lt_of_ne h with q | q
  · exact Int.mul_pos_of_neg_of_neg q q
  · exact Int.mul_pos q q
theorem cmpR_eq {s u v ax ay : Int} (hD : 0 < ax * ax + ay * ay) : cmpR s (u * ax + v * ay) (ax * ax + ay * ay) = fastE s u v ax ay := by
  unfold fastE leftE rightE
  generalize u * ax + v * ay = w
  have hs : s ≠ 0 → 0 < s * s * (ax * ax + ay * ay) := fun h => Int.mul_pos (sq_zero h) hD
  have hw : w ≠ 0 → 0 < w * w := sq_zero
  have hs0 : s = 0 → s * s * (ax * ax + ay * ay) = 0 := fun h => by rw [h]; simp
  have hw0 : w = 0 → w * w = 0 := fun h => by rw [h]; rfl
  unfold cmpR
  generalize s * s * (ax * ax + ay * ay) = S at *
  generalize w * w = W at *
  unfold sgnE cmpE
  rcases Int.lt_trichotomy s 0 with h1 | h1 | h1 <;> rcases Int.lt_trichotomy w 0 with h2 | h2 | h2
  · have s1 := hs; have w1 := hw; have s0 := hs0; have w0 := hw0
    simp only [show (0 < s) = False from eq_false (by omega), show (s < 0) = True from eq_true (by omega), show (0 < w) = False from eq_false (by omega), show (w < 0) = True from eq_true (by omega), if_true, if_false]
    have sp := hs (by omega)
    have wp := hw (by omega)
    first | omega | (simp only [Int.mul_one, Int.one_mul, Int.neg_mul, Int.mul_neg, Int.neg_neg, Int.mul_zero, Int.zero_mul]; (repeat' split) <;> omega) | ((repeat' split) <;> omega)
  · have s1 := hs; have w1 := hw; have s0 := hs0; have w0 := hw0
    simp only [show (0 < s) = False from eq_false (by omega), show (s < 0) = True from eq_true (by omega), show (0 < w) = False from eq_false (by omega), show (w < 0) = False from eq_false (by omega), if_true, if_false]
    have sp := hs (by omega)
    have wz := hw0 h2
    first | omega | (simp only [Int.mul_one, Int.one_mul, Int.neg_mul, Int.mul_neg, Int.neg_neg, Int.mul_zero, Int.zero_mul]; (repeat' split) <;> omega) | ((repeat' split) <;> omega)
  · have s1 := hs; have w1 := hw; have s0 := hs0; have w0 := hw0
    simp only [show (0 < s) = False from eq_false (by omega), show (s < 0) = True from eq_true (by omega), show (0 < w) = True from eq_true (by omega), show (w < 0) = False from eq_false (by omega), if_true, if_false]
    have sp := hs (by omega)
    have wp := hw (by omega)
    first | omega | (simp only [Int.mul_one, Int.one_mul, Int.neg_mul, Int.mul_neg, Int.neg_neg, Int.mul_zero, Int.zero_mul]; (repeat' split) <;> omega) | ((repeat' split) <;> omega)
  · have s1 := hs; have w1 := hw; have s0 := hs0; have w0 := hw0
    simp only [show (0 < s) = False from eq_false (by omega), show (s < 0) = False from eq_false (by omega), show (0 < w) = False from eq_false (by omega), show (w < 0) = True from eq_true (by omega), if_true, if_false]
    have sz := hs0 h1
    have wp := hw (by omega)
    first | omega | (simp only [Int.mul_one, Int.one_mul, Int.neg_mul, Int.mul_neg, Int.neg_neg, Int.mul_zero, Int.zero_mul]; (repeat' split) <;> omega) | ((repeat' split) <;> omega)
  · have s1 := hs; have w1 := hw; have s0 := hs0; have w0 := hw0
    simp only [show (0 < s) = False from eq_false (by omega), show (s < 0) = False from eq_false (by omega), show (0 < w) = False from eq_false (by omega), show (w < 0) = False from eq_false (by omega), if_true, if_false]
    have sz := hs0 h1
    have wz := hw0 h2
    first | omega | (simp only [Int.mul_one, Int.one_mul, Int.neg_mul, Int.mul_neg, Int.neg_neg, Int.mul_zero, Int.zero_mul]; (repeat' split) <;> omega) | ((repeat' split) <;> omega)
  · have s1 := hs; have w1 := hw; have s0 := hs0; have w0 := hw0
    simp only [show (0 < s) = False from eq_false (by omega), show (s < 0) = False from eq_false (by omega), show (0 < w) = True from eq_true (by omega), show (w < 0) = False from eq_false (by omega), if_true, if_false]
    have sz := hs0 h1
    have wp := hw (by omega)
    first | omega | (simp only [Int.mul_one, Int.one_mul, Int.neg_mul, Int.mul_neg, Int.neg_neg, Int.mul_zero, Int.zero_mul]; (repeat' split) <;> omega) | ((repeat' split) <;> omega)
  · have s1 := hs; have w1 := hw; have s0 := hs0; have w0 := hw0
    simp only [show (0 < s) = True from eq_true (by omega), show (s < 0) = False from eq_false (by omega), show (0 < w) = False from eq_false (by omega), show (w < 0) = True from eq_true (by omega), if_true, if_false]
    have sp := hs (by omega)
    have wp := hw (by omega)
    first | omega | (simp only [Int.mul_one, Int.one_mul, Int.neg_mul, Int.mul_neg, Int.neg_neg, Int.mul_zero, Int.zero_mul]; (repeat' split) <;> omega) | ((repeat' split) <;> omega)
  · have s1 := hs; have w1 := hw; have s0 := hs0; have w0 := hw0
    simp only [show (0 < s) = True from eq_true (by omega), show (s < 0) = False from eq_false (by omega), show (0 < w) = False from eq_false (by omega), show (w < 0) = False from eq_false (by omega), if_true, if_false]
    have sp := hs (by omega)
    have wz := hw0 h2
    first | omega | (simp only [Int.mul_one, Int.one_mul, Int.neg_mul, Int.mul_neg, Int.neg_neg, Int.mul_zero, Int.zero_mul]; (repeat' split) <;> omega) | ((repeat' split) <;> omega)
  · have s1 := hs; have w1 := hw; have s0 := hs0; have w0 := hw0
    simp only [show (0 < s) = True from eq_true (by omega), show (s < 0) = False from eq_false (by omega), show (0 < w) = True from eq_true (by omega), show (w < 0) = False from eq_false (by omega), if_true, if_false]
    have sp := hs (by omega)
    have wp := hw (by omega)
    first | omega | (simp only [Int.mul_one, Int.one_mul, Int.neg_mul, Int.mul_neg, Int.neg_neg, Int.mul_zero, Int.zero_mul]; (repeat' split) <;> omega) | ((repeat' split) <;> omega)
theorem sgn_bd (n : Int) : -1 ≤ sgnE n ∧ sgnE n ≤ 1 := by
  unfold sgnE
  split
  · omega
  · split <;> omega
def signC : Contract := fun _ args =>
  match args with
  | [.int .i64 n] => ⟨True, .int .i64 (sgnE n), none⟩
  | _ => ⟨False, .top, none⟩
def cmpRC : Contract := fun _ args =>
  match args with
  | [.sl n sz get, .int .i64 i, .int .i64 j, .agg [.int .i64 x, .int .i64 y]] => ⟨sz = 5 ∧ IsAir n get ∧ airE n get = 0 ∧ (0 ≤ i ∧ i < n) ∧ (0 ≤ j ∧ j < n) ∧ (-20000 ≤ x ∧ x ≤ 20000) ∧ (-20000 ≤ y ∧ y ≤ 20000) ∧ ¬ (x = 0 ∧ y = 0),
      .int .i64 (cmpV get i.toNat j.toNat x y), none⟩
  | _ => ⟨False, .top, none⟩
attribute [go_sem] signC cmpRC
end Go.Fly
