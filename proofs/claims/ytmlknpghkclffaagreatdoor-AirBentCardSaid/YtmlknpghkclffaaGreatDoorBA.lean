/- Part of a proof: an evaluator of the model's code by abstract values, and plain laws for it. No conditions. -/
import Derived.Test.YtmlknpghkclffaaGreatDoorAW
set_option linter.unusedSimpArgs false
set_option linter.unusedVariables false
/- The reference's winds and rays. -/
namespace Go.Fly
open Go
def sgnE (n : Int) : Int := if 0 < n then 1 else if n < 0 then -1 else 0
def cmpR (s w d : Int) : Int := if 0 ≤ sgnE s * sgnE w then sgnE (sgnE s + sgnE w) else sgnE s * sgnE (s * s * d - w * w)
theorem sq_zero {x : Int} (h : x ≠ 0) : 0 < x * x := by
  rcases Int.lt_or_lt_of_ne h with q | q
  · exact Int.mul_pos_of_neg_of_neg q q
  · exact Int.mul_pos q q
theorem cmpR_eq {s u v ax ay : Int} (hD : 0 < ax * ax + ay * ay) : cmpR s (u * ax + v * ay) (ax * ax + ay * ay) = fastE s u v ax ay := by
  unfold fastE leftE rightE
  generalize u * ax + v * ay = w
  have hs : s ≠ 0 → 0 < s * s * (ax * ax + ay * ay) := fun h => Int.mul_pos (sq_zero h) hD
  have hw : w ≠ 0 → 0 < w * w := sq_zero
  have hs0 : s = 0 → s * s * (ax * ax + ay * ay) = 0 := fun h => by rw [h]; simp
  have hw0 : w = 0 → w * w = 0 := fun h => by rw [h]; rfl
  unfold cmpR
  generalize s * s * (ax * ax + ay * ay) = S at *
  generalize w * w = W at *
  unfold sgnE cmpE
  rcases Int.lt_trichotomy s 0 with h1 | h1 | h1 <;> rcases Int.lt_trichotomy w 0 with h2 | h2 | h2
  · have s1 := hs; have w1 := hw; have s0 := hs0; have w0 := hw0
    simp only [show (0 < s) = False from eq_false (by omega), show (s < 0) = True from eq_true (by omega), show (0 < w) = False from eq_false (by omega), show (w < 0) = True from eq_true (by omega), if_true, if_false]
    have sp := hs (by omega)
    have wp := hw (by omega)
    first | omega | (simp only [Int.mul_one, Int.one_mul, Int.neg_mul, Int.mul_neg, Int.neg_neg, Int.mul_zero, Int.zero_mul]; (repeat' split) <;> omega) | ((repeat' split) <;> omega)
  · have s1 := hs; have w1 := hw; have s0 := hs0; have w0 := hw0
    simp only [show (0 < s) = False from eq_false (by omega), show (s < 0) = True from eq_true (by omega), show (0 < w) = False from eq_false (by omega), show (w < 0) = False from eq_false (by omega), if_true, if_false]
    have sp := hs (by omega)
    have wz := hw0 h2
    first | omega | (simp only [Int.mul_one, Int.one_mul, Int.neg_mul, Int.mul_neg, Int.neg_neg, Int.mul_zero, Int.zero_mul]; (repeat' split) <;> omega) | ((repeat' split) <;> omega)
  · have s1 := hs; have w1 := hw; have s0 := hs0; have w0 := hw0
    simp only [show (0 < s) = False from eq_false (by omega), show (s < 0) = True from eq_true (by omega), show (0 < w) = True from eq_true (by omega), show (w < 0) = False from eq_false (by omega), if_true, if_false]
    have sp := hs (by omega)
    have wp := hw (by omega)
    first | omega | (simp only [Int.mul_one, Int.one_mul, Int.neg_mul, Int.mul_neg, Int.neg_neg, Int.mul_zero, Int.zero_mul]; (repeat' split) <;> omega) | ((repeat' split) <;> omega)
  · have s1 := hs; have w1 := hw; have s0 := hs0; have w0 := hw0
    simp only [show (0 < s) = False from eq_false (by omega), show (s < 0) = False from eq_false (by omega), show (0 < w) = False from eq_false (by omega), show (w < 0) = True from eq_true (by omega), if_true, if_false]
    have sz := hs0 h1
    have wp := hw (by omega)
    first | omega | (simp only [Int.mul_one, Int.one_mul, Int.neg_mul, Int.mul_neg, Int.neg_neg, Int.mul_zero, Int.zero_mul]; (repeat' split) <;> omega) | ((repeat' split) <;> omega)
  · have s1 := hs; have w1 := hw; have s0 := hs0; have w0 := hw0
    simp only [show (0 < s) = False from eq_false (by omega), show (s < 0) = False from eq_false (by omega), show (0 < w) = False from eq_false (by omega), show (w < 0) = False from eq_false (by omega), if_true, if_false]
    have sz := hs0 h1
    have wz := hw0 h2
    first | omega | (simp only [Int.mul_one, Int.one_mul, Int.neg_mul, Int.mul_neg, Int.neg_neg, Int.mul_zero, Int.zero_mul]; (repeat' split) <;> omega) | ((repeat' split) <;> omega)
  · have s1 := hs; have w1 := hw; have s0 := hs0; have w0 := hw0
    simp only [show (0 < s) = False from eq_false (by omega), show (s < 0) = False from eq_false (by omega), show (0 < w) = True from eq_true (by omega), show (w < 0) = False from eq_false (by omega), if_true, if_false]
    have sz := hs0 h1
    have wp := hw (by omega)
    first | omega | (simp only [Int.mul_one, Int.one_mul, Int.neg_mul, Int.mul_neg, Int.neg_neg, Int.mul_zero, Int.zero_mul]; (repeat' split) <;> omega) | ((repeat' split) <;> omega)
  · have s1 := hs; have w1 := hw; have s0 := hs0; have w0 := hw0
    simp only [show (0 < s) = True from eq_true (by omega), show (s < 0) = False from eq_false (by omega), show (0 < w) = False from eq_false (by omega), show (w < 0) = True from eq_true (by omega), if_true, if_false]
    have sp := hs (by omega)
    have wp := hw (by omega)
    first | omega | (simp only [Int.mul_one, Int.one_mul, Int.neg_mul, Int.mul_neg, Int.neg_neg, Int.mul_zero, Int.zero_mul]; (repeat' split) <;> omega) | ((repeat' split) <;> omega)
  · have s1 := hs; have w1 := hw; have s0 := hs0; have w0 := hw0
    simp only [show (0 < s) = True from eq_true (by omega), show (s < 0) = False from eq_false (by omega), show (0 < w) = False from eq_false (by omega), show (w < 0) = False from eq_false (by omega), if_true, if_false]
    have sp := hs (by omega)
    have wz := hw0 h2
    first | omega | (simp only [Int.mul_one, Int.one_mul, Int.neg_mul, Int.mul_neg, Int.neg_neg, Int.mul_zero, Int.zero_mul]; (repeat' split) <;> omega) | ((repeat' split) <;> omega)
  · have s1 := hs; have w1 := hw; have s0 := hs0; have w0 := hw0
    simp only [show (0 < s) = True from eq_true (by omega), show (s < 0) = False from eq_false (by omega), show (0 < w) = True from eq_true (by omega), show (w < 0) = False from eq_false (by omega), if_true, if_false]
    have sp := hs (by omega)
    have wp := hw (by omega)
    first | omega | (simp only [Int.mul_one, Int.one_mul, Int.neg_mul, Int.mul_neg, Int.neg_neg, Int.mul_zero, Int.zero_mul]; (repeat' split) <;> omega) | ((repeat' split) <;> omega)
theorem sgn_bd (n : Int) : -1 ≤ sgnE n ∧ sgnE n ≤ 1 := by
  unfold sgnE
  split
  · omega
  · split <;> omega
theorem bot_lt {n : Nat} {get : Nat → List V} (hok : AirOk n get) {i : Nat} : ∀ {j : Nat}, i < j → j ≤ n → botE get i < botE get j
  | 0, h, _ => absurd h (Nat.not_lt_zero _)
  | j + 1, h, hj => by
    have ht := hok.th j (by omega)
    have e : botE get (j + 1) = botE get j + cell get j 0 := rfl
    by_cases q : i = j
    · subst q; omega
    · have := bot_lt hok (i := i) (j := j) (by omega) (by omega)
      omega
def signC : Contract := fun _ args =>
  match args with
  | [.int .i64 n] => ⟨True, .int .i64 (sgnE n), none⟩
  | _ => ⟨False, .top, none⟩
def cmpRC : Contract := fun _ args =>
  match args with
  | [.sl n sz get, .int .i64 i, .int .i64 j, .agg [.int .i64 x, .int .i64 y]] => ⟨sz = 5 ∧ IsAir n get ∧ airE n get = 0 ∧ (0 ≤ i ∧ i < n) ∧ (0 ≤ j ∧ j < n) ∧ (-20000 ≤ x ∧ x ≤ 20000) ∧ (-20000 ≤ y ∧ y ≤ 20000) ∧ ¬ (x = 0 ∧ y = 0),
      .int .i64 (cmpV get i.toNat j.toNat x y), none⟩
  | _ => ⟨False, .top, none⟩
def bentRC : Contract := fun _ args =>
  match args with
  | [.sl n sz get, .agg [.int .i64 a, .int .i64 b, .int .i64 c, .int .i64 d, .int .i64 e, .int .i64 f]] => ⟨sz = 5 ∧ IsAir n get ∧ airE n get = 0 ∧ PathOk a b c d e f, .int .i64 (bentE n get a b c d e f), none⟩
  | _ => ⟨False, .top, none⟩
def shadRC : Contract := fun _ args =>
  match args with
  | [.sl n sz get, .agg [.int .i64 a, .int .i64 b, .int .i64 c, .int .i64 d, .int .i64 e, .int .i64 f]] => ⟨sz = 5 ∧ IsAir n get ∧ airE n get = 0 ∧ PathOk a b c d e f, .bool (shadE n get a b c d e f), none⟩
  | _ => ⟨False, .top, none⟩
def lowC : Contract := fun _ args =>
  match args with
  | [.int .i64 a, .int .i64 b] => ⟨(0 ≤ a ∧ a ≤ 1000000000000) ∧ 1 ≤ b ∧ b ≤ 1000000000000, .agg [.int .i64 (a.tdiv (Nat.gcd a.toNat b.toNat : Nat)), .int .i64 (b.tdiv (Nat.gcd a.toNat b.toNat : Nat))], none⟩
  | _ => ⟨False, .top, none⟩
def slowE (num den : Int) : Int := if firstL [rng num 1 100000, rng den 1 100000] ≠ 0 then firstL [rng num 1 100000, rng den 1 100000] else if Nat.gcd num.toNat den.toNat ≠ 1 then 1 else 0
def slowC : Contract := fun _ args =>
  match args with
  | [.agg [.int .i64 num, .int .i64 den]] => ⟨True, .int .i64 (slowE num den), none⟩
  | _ => ⟨False, .top, none⟩
def turnRC : Contract := fun _ args =>
  match args with
  | [.sl n sz get, .int .i64 i, .agg [.int .i64 num, .int .i64 den]] => ⟨sz = 5 ∧ IsAir n get ∧ airE n get = 0 ∧ (0 ≤ i ∧ i < n) ∧ (1 ≤ num ∧ num ≤ 100000) ∧ (1 ≤ den ∧ den ≤ 100000), orE (if turnI n get i.toNat num den = -1 then 7 else 0) (.int .i64 0) (.int .i64 (turnI n get i.toNat num den)), none⟩
  | _ => ⟨False, .top, none⟩
def airRayC : Contract := fun _ args =>
  match args with
  | [.sl n sz get, .agg [.int .i64 a, .int .i64 b, .int .i64 c, .int .i64 d, .int .i64 e, .int .i64 f], .agg [.int .i64 i, .int .i64 x, .int .i64 y]] => ⟨sz = 5 ∧ IsAir n get, .bool true, none⟩
  | _ => ⟨False, .top, none⟩
attribute [go_sem] signC cmpRC bentRC shadRC lowC slowC turnRC airRayC
def rayE (n : Nat) (get : Nat → List V) (i num den : Int) : Int := firstL [airE n get, lixE n i, slowE num den]
theorem rayE_turn (n : Nat) (get : Nat → List V) (i num den : Int) : turnE n get i num den = if rayE n get i num den ≠ 0 then rayE n get i num den else if turnI n get i.toNat num den = -1 then 7 else 0 := by
  unfold turnE turn1 rayE slowE
  by_cases h1 : airE n get = 0 <;> by_cases h2 : lixE n i = 0 <;> by_cases h3 : rng num 1 100000 = 0 <;> by_cases h4 : rng den 1 100000 = 0 <;> by_cases h5 : Nat.gcd num.toNat den.toNat = 1 <;> simp [firstL, h1, h2, h3, h4, h5]
theorem slowE_zero {num den : Int} (h : slowE num den = 0) : (1 ≤ num ∧ num ≤ 100000) ∧ (1 ≤ den ∧ den ≤ 100000) := by
  unfold slowE at h
  by_cases q : firstL [rng num 1 100000, rng den 1 100000] = 0
  · have hz := firstL_zero.1 q
    exact ⟨rng_zero.1 (hz _ (by simp)), rng_zero.1 (hz _ (by simp))⟩
  · rw [if_pos q] at h; exact absurd h q
end Go.Fly
