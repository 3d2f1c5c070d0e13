/- Part of a proof: an evaluator of the model's code by abstract values, and plain laws for it. No conditions. -/
import Derived.Test.YtmlknpghkclffaaGreatDoorAL
set_option linter.unusedSimpArgs false
set_option linter.unusedVariables false
/- The air's functions at any input: answers or errors. -/
namespace Go.Fly
open Go
/-- An answer, or an error with a zero. -/
def orE (e : Int) (zero good : V) : V := if e = 0 then .tup [good, .int .i64 0] else .tup [zero, .int .i64 e]
theorem orE_no {e : Int} {zero good : V} (h : e = 0) : orE e zero good = .tup [good, .int .i64 0] := if_pos h
theorem orE_err {e : Int} {zero good : V} (h : ¬ e = 0) : orE e zero good = .tup [zero, .int .i64 e] := if_neg h

def alongE (x y : Int) : Int := firstL [rng x (-20000) 20000, rng y (-20000) 20000, err (decide (x = 0) && decide (y = 0)) 6]
def alongC : Contract := fun _ args =>
  match args with
  | [.agg [.int .i64 x, .int .i64 y]] => ⟨True, .int .i64 (alongE x y), none⟩
  | _ => ⟨False, .top, none⟩
def lixE (n : Nat) (i : Int) : Int := err (decide (i < 0) || decide ((n : Int) ≤ i)) 10
def lixC : Contract := fun _ args =>
  match args with
  | [.sl n sz get, .int .i64 i] => ⟨Pu (.sl n sz get), .int .i64 (lixE n i), none⟩
  | _ => ⟨False, .top, none⟩
def latE (n : Nat) (get : Nat → List V) (h : Int) : Int := firstL [airE n get, rng h 0 10000]
def lat3C : Contract := fun _ args =>
  match args with
  | [.sl n sz get, .int .i64 h] => ⟨sz = 5 ∧ IsAir n get, orE (latE n get h) (.int .i64 0) (.int .i64 (atE n get h)), none⟩
  | _ => ⟨False, .top, none⟩
def cmp3E (n : Nat) (get : Nat → List V) (i j x y : Int) : Int := firstL [airE n get, lixE n i, lixE n j, alongE x y]
def cmpV (get : Nat → List V) (i j : Nat) (x y : Int) : Int := fastE (cell get i 1 - cell get j 1) (cell get i 2 - cell get j 2) (cell get i 3 - cell get j 3) x y
def cmp3C : Contract := fun _ args =>
  match args with
  | [.sl n sz get, .int .i64 i, .int .i64 j, .agg [.int .i64 x, .int .i64 y]] => ⟨sz = 5 ∧ IsAir n get, orE (cmp3E n get i j x y) (.int .i64 0) (.int .i64 (cmpV get i.toNat j.toNat x y)), none⟩
  | _ => ⟨False, .top, none⟩
def rev3C : Contract := fun _ args =>
  match args with
  | [.sl n sz get] => ⟨sz = 5 ∧ IsAir n get, orE (airE n get) .nils (.sl n 5 (revG get)), none⟩
  | _ => ⟨False, .top, none⟩
def bent3C : Contract := fun _ args =>
  match args with
  | [.sl n sz get, .agg [.int .i64 a, .int .i64 b, .int .i64 c, .int .i64 d, .int .i64 e, .int .i64 f]] => ⟨sz = 5 ∧ IsAir n get, orE (checkE n get a b c d e f) (.int .i64 0) (.int .i64 (bentE n get a b c d e f)), none⟩
  | _ => ⟨False, .top, none⟩
def shadE (n : Nat) (get : Nat → List V) (a b c d e f : Int) : Bool := decide (bentE n get a b c d e f < 0) && decide (20 * (c + f) * (20 * (c + f)) < (d - a) * (d - a) + (e - b) * (e - b))
def shad3C : Contract := fun _ args =>
  match args with
  | [.sl n sz get, .agg [.int .i64 a, .int .i64 b, .int .i64 c, .int .i64 d, .int .i64 e, .int .i64 f]] => ⟨sz = 5 ∧ IsAir n get, orE (checkE n get a b c d e f) (.bool false) (.bool (shadE n get a b c d e f)), none⟩
  | _ => ⟨False, .top, none⟩
attribute [go_sem] alongC lixC lat3C cmp3C rev3C bent3C shad3C
theorem lixE_zero {n : Nat} {i : Int} : lixE n i = 0 ↔ 0 ≤ i ∧ i < n := by
  unfold lixE
  rw [err_zero (by decide)]
  simp only [Bool.or_eq_false_iff, decide_eq_false_iff_not]
  omega
theorem alongE_zero {x y : Int} (h : alongE x y = 0) : (-20000 ≤ x ∧ x ≤ 20000) ∧ (-20000 ≤ y ∧ y ≤ 20000) := by
  have := firstL_zero.1 h
  exact ⟨rng_zero.1 (this _ (by simp)), rng_zero.1 (this _ (by simp))⟩

theorem sqBd {x m : Int} (h1 : -m ≤ x) (h2 : x ≤ m) : 0 ≤ x * x ∧ x * x ≤ m * m := by
  rcases Int.le_total 0 x with h | h
  · exact ⟨Int.mul_nonneg h h, Int.mul_le_mul h2 h2 h (by omega)⟩
  · have e : x * x = (-x) * (-x) := by rw [Int.neg_mul_neg]
    rw [e]
    exact ⟨Int.mul_nonneg (by omega) (by omega), Int.mul_le_mul (by omega) (by omega) (by omega) (by omega)⟩
end Go.Fly
