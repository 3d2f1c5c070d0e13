/- Part of a proof: an evaluator of the model's code by abstract values, and plain laws for it. No conditions. -/
import Derived.Test.YtmlknpghkclffaaGreatDoorAW
set_option linter.unusedSimpArgs false
set_option linter.unusedVariables false
/- The reference's transmittances. -/
namespace Go.Fly
open Go
theorem floor_t {a b : Int} (hb : 0 < b) : (a.tdiv b * b ≤ a ∧ a.tdiv b = a / b) ∨ (a < a.tdiv b * b ∧ a.tdiv b - 1 = a / b) := by
  have h1 := Int.ediv_mul_le a (show b ≠ 0 by omega)
  have h2 := Int.lt_ediv_add_one_mul_self a hb
  rw [Int.tdiv_eq_ediv]
  split
  · left; rw [Int.add_zero]; exact ⟨h1, rfl⟩
  · right; rw [Int.sign_eq_one_of_pos hb]; exact ⟨h2, by omega⟩
theorem ceil_t {a b : Int} (hb : 0 < b) : 0 - (0 - a) / b = (a + b - 1) / b := by
  have h1 := Int.ediv_mul_le (a + b - 1) (show b ≠ 0 by omega)
  have h2 := Int.lt_ediv_add_one_mul_self (a + b - 1) hb
  generalize (a + b - 1) / b = q at *
  rw [Int.add_mul, Int.one_mul] at h2
  have h3 : -q ≤ (0 - a) / b := (Int.le_ediv_iff_mul_le hb).2 (by rw [Int.neg_mul]; omega)
  have h4 : (0 - a) / b < -q + 1 := Int.ediv_lt_of_lt_mul hb (by rw [Int.add_mul, Int.neg_mul, Int.one_mul]; omega)
  omega
def flrC : Contract := fun _ args =>
  match args with
  | [.int .i64 a, .int .i64 b] => ⟨-4000000000000000000 ≤ a ∧ a ≤ 4000000000000000000 ∧ 0 < b ∧ b ≤ 1000000000000, .int .i64 (a / b), none⟩
  | _ => ⟨False, .top, none⟩
def celC : Contract := fun _ args =>
  match args with
  | [.int .i64 a, .int .i64 b] => ⟨-3000000000000000000 ≤ a ∧ a ≤ 3000000000000000000 ∧ 0 < b ∧ b ≤ 1000000000000, .int .i64 ((a + b - 1) / b), none⟩
  | _ => ⟨False, .top, none⟩
def passRC : Contract := fun _ args =>
  match args with
  | [.sl n sz get, .agg [.int .i64 a, .int .i64 b, .int .i64 c, .int .i64 d, .int .i64 e, .int .i64 f]] => ⟨sz = 5 ∧ IsAir n get ∧ AirOk n get ∧ PathOk a b c d e f,
      .sl (inN get 0 4) 2 (fun k => [.int .i64 (dLo n get a b c d e f k), .int .i64 (dHi n get a b c d e f k)]), none⟩
  | _ => ⟨False, .top, none⟩
def echoSC : Contract := fun _ args =>
  match args with
  | [.sl n sz get, .agg [.int .i64 a, .int .i64 b, .int .i64 c, .int .i64 d, .int .i64 e, .int .i64 f]] => ⟨sz = 5 ∧ IsAir n get ∧ AirOk n get ∧ PathOk a b c d e f,
      .sl n 2 (fun i => [.int .i64 (stLo n get (ech a b c d e f) 0 c 0 f 0 i), .int .i64 (stHi n get (ech a b c d e f) 0 c 0 f 0 i)]), none⟩
  | _ => ⟨False, .top, none⟩
def echoRC : Contract := fun _ args =>
  match args with
  | [.sl n sz get, .agg [.int .i64 a, .int .i64 b, .int .i64 c, .int .i64 d, .int .i64 e, .int .i64 f]] => ⟨sz = 5 ∧ IsAir n get ∧ AirOk n get ∧ PathOk a b c d e f,
      .sl (inN get 0 4) 2 (fun k => [.int .i64 (eLo n get a b c d e f k), .int .i64 (eHi n get a b c d e f k)]), none⟩
  | _ => ⟨False, .top, none⟩
attribute [go_sem] flrC celC passRC echoSC echoRC
theorem winR_0 {n : Nat} {get : Nat → List V} (hok : AirOk n get) {i : Nat} (hi : i < n) {h : Int} (h0 : 0 ≤ h) (h1 : h ≤ 20000) : winR n get i h = overE (botE get i) (topE n get i) 0 h := by
  have := winR_part hok hi (lo := 0) (hi' := h) (by omega) h0 h1
  rw [← this]
  obtain ⟨q1, q2, q3⟩ := topR_E hok hi
  have hb := bot_bd hok (show i ≤ n by omega)
  have : winR n get i 0 = 0 := by unfold winR; omega
  omega
theorem at_0 {n : Nat} {get : Nat → List V} (hok : AirOk n get) : atE n get 0 = 0 := by
  have h0 := hok.cnt
  have := top_bd hok (i := 0) h0.1
  have hb : botE get 0 = 0 := rfl
  exact atE_eq (i := 0) h0.1 (by omega) fun j hj => absurd hj (Nat.not_lt_zero _)
theorem ec_flat {n : Nat} {get : Nat → List V} {c f : Int} {i : Nat} (hok : AirOk n get) (hz : c + f = 0) : partG n get 0 c 0 f 0 i = (if (i : Int) = 0 then 1 else 0) ∧ byG 0 c 0 f = 1 := by
  have ha : allG 0 c 0 f = 0 := by unfold allG; omega
  unfold partG byG
  rw [if_pos ha, if_pos ha, at_0 hok]
  exact ⟨rfl, rfl⟩
theorem ec_slant {n : Nat} {get : Nat → List V} {c f : Int} {i : Nat} (hok : AirOk n get) (hi : i < n) (hz : ¬ c + f = 0) (h1 : 0 ≤ c ∧ c ≤ 10000) (h2 : 0 ≤ f ∧ f ≤ 10000) :
    partG n get 0 c 0 f 0 i = winR n get i c + winR n get i f ∧ byG 0 c 0 f = c + f := by
  have ha : ¬ allG 0 c 0 f = 0 := by unfold allG; omega
  unfold partG byG
  rw [if_neg ha, if_neg ha, winR_0 hok hi h1.1 (by omega), winR_0 hok hi h2.1 (by omega)]
  exact ⟨rfl, by unfold allG; omega⟩
end Go.Fly
