/- Part of a proof: an evaluator of the model's code by abstract values, and plain laws for it. No conditions. -/
import Derived.Test.YtmlknpghkclffaaGreatDoorAU
set_option linter.unusedSimpArgs false
set_option linter.unusedVariables false
/- The law's helpers on the air; where the reference says the same. -/
namespace Go.Fly
open Go
def ownAirC : Contract := fun _ args =>
  match args with
  | [.sl n sz get] => ⟨sz = 5 ∧ IsAir n get ∧ n ≤ 1000 ∧ (∀ i, i < n → inN get i 4 ≤ 1000), .sl n 5 get, none⟩
  | _ => ⟨False, .top, none⟩
def ownListC : Contract := fun _ args =>
  match args with
  | [.sl n sz get] => ⟨sz = 2 ∧ IsIv n get ∧ n ≤ 1000000, .sl n 2 get, none⟩
  | _ => ⟨False, .top, none⟩
def ownIntsC : Contract := fun _ args =>
  match args with
  | [.sl n sz get] => ⟨sz = 1 ∧ IsInts n get ∧ n ≤ 1000000, .sl n 1 get, none⟩
  | _ => ⟨False, .top, none⟩
def toPathRC : Contract := fun _ args =>
  match args with
  | [.agg [.int .i64 a, .int .i64 b, .int .i64 c, .int .i64 d, .int .i64 e, .int .i64 f]] => ⟨True, .agg [.int .i64 a, .int .i64 b, .int .i64 c, .int .i64 d, .int .i64 e, .int .i64 f], none⟩
  | _ => ⟨False, .top, none⟩
/-- What the law compares: both errors, or equal intervals. -/
def ivsSame (have' : V) (e bad : Int) (want : V) : Prop :=
  (e = bad ∧ bad ≠ 0 ∧ have' = .nils ∧ Pu want) ∨ (e = 0 ∧ bad = 0 ∧ ∃ n a b, have' = .sl n 2 a ∧ want = .sl n 2 b ∧ IsIv n a ∧ IsIv n b ∧ ∀ i, i < n → cell a i 0 = cell b i 0 ∧ cell a i 1 = cell b i 1)
def ivsC : Contract := fun _ args =>
  match args with
  | [x, .int .i64 e, .int .i64 bad, y] => ⟨ivsSame x e bad y, .bool true, none⟩
  | _ => ⟨False, .top, none⟩
attribute [go_sem] ownAirC ownListC ownIntsC toPathRC ivsC
theorem sameG_true {n : Nat} {a b : Nat → List V} (h : ∀ i, i < n → cell a i 0 = cell b i 0 ∧ cell a i 1 = cell b i 1) : sameG n a n b = true := by
  unfold sameG
  rw [Bool.and_eq_true]
  exact ⟨decide_eq_true rfl, decide_eq_true h⟩
/-- The top of a layer, as the reference reckons it. -/
def topR (n : Nat) (get : Nat → List V) (i : Nat) : Int := if (i : Int) = (n : Int) - 1 then 40000 else botE get (i + 1)
def winR (n : Nat) (get : Nat → List V) (i : Nat) (h : Int) : Int := max 0 (min h (topR n get i) - botE get i)
theorem topR_E {n : Nat} {get : Nat → List V} (hok : AirOk n get) {i : Nat} (hi : i < n) : botE get i < topR n get i ∧ botE get i ≤ 16000 ∧ (topR n get i = topE n get i ∨ (40000 ≤ topR n get i ∧ 40000 ≤ topE n get i)) := by
  have h1 := bot_bd hok (show i ≤ n by omega)
  have h2 := top_bd hok hi
  have h3 := hok.th i hi
  have hn := hok.cnt
  have h4 : (i : Int) ≤ 7 := by omega
  unfold topR topE
  by_cases e : (i : Int) = (n : Int) - 1
  · rw [if_pos e, if_pos e]; omega
  · rw [if_neg e, if_neg e]
    have e2 : botE get (i + 1) = botE get i + cell get i 0 := rfl
    exact ⟨by omega, by omega, .inl e2⟩
theorem topR_lt {n : Nat} {get : Nat → List V} (hok : AirOk n get) {i : Nat} (hi : i < n) {h : Int} (hh : h ≤ 20000) : h < topR n get i ↔ h < topE n get i := by
  obtain ⟨q1, q2, q3⟩ := topR_E hok hi
  omega
theorem winR_part {n : Nat} {get : Nat → List V} (hok : AirOk n get) {i : Nat} (hi : i < n) {lo hi' : Int} (h0 : 0 ≤ lo) (h1 : lo ≤ hi') (h2 : hi' ≤ 20000) :
    winR n get i hi' - winR n get i lo = overE (botE get i) (topE n get i) lo hi' := by
  obtain ⟨q1, q2, q3⟩ := topR_E hok hi
  unfold winR overE
  omega
def botC : Contract := fun _ args =>
  match args with
  | [.sl n sz get, .int .i64 i] => ⟨sz = 5 ∧ IsAir n get ∧ AirOk n get ∧ 0 ≤ i ∧ i ≤ n, .int .i64 (botE get i.toNat), none⟩
  | _ => ⟨False, .top, none⟩
def topRC : Contract := fun _ args =>
  match args with
  | [.sl n sz get, .int .i64 i] => ⟨sz = 5 ∧ IsAir n get ∧ AirOk n get ∧ 0 ≤ i ∧ i < n, .int .i64 (topR n get i.toNat), none⟩
  | _ => ⟨False, .top, none⟩
def latRC : Contract := fun _ args =>
  match args with
  | [.sl n sz get, .int .i64 h] => ⟨sz = 5 ∧ IsAir n get ∧ AirOk n get ∧ 0 ≤ h ∧ h ≤ 20000, .int .i64 (atE n get h), none⟩
  | _ => ⟨False, .top, none⟩
def winC : Contract := fun _ args =>
  match args with
  | [.sl n sz get, .int .i64 i, .int .i64 h] => ⟨sz = 5 ∧ IsAir n get ∧ AirOk n get ∧ (0 ≤ i ∧ i < n) ∧ 0 ≤ h ∧ h ≤ 20000, .int .i64 (winR n get i.toNat h), none⟩
  | _ => ⟨False, .top, none⟩
def sqRC : Contract := fun _ args =>
  match args with
  | [.agg [.int .i64 a, .int .i64 b, .int .i64 c, .int .i64 d, .int .i64 e, .int .i64 f], .int .i64 h] => ⟨PathOk a b c d e f ∧ -20000 ≤ h ∧ h ≤ 20000, .int .i64 ((d - a) * (d - a) + (e - b) * (e - b) + h * h), none⟩
  | _ => ⟨False, .top, none⟩
def rootsRC : Contract := fun _ args =>
  match args with
  | [.int .i64 sq, .int .i64 f, .int .i64 d] => ⟨(0 ≤ sq ∧ sq ≤ 1200000000) ∧ (0 ≤ f ∧ f ≤ 20000) ∧ (1 ≤ d ∧ d ≤ 2000000) ∧ f ≤ d, .agg [.int .i64 (rootE (sq * f * f) (d * d)), .int .i64 (rootUp (sq * f * f) (d * d))], none⟩
  | _ => ⟨False, .top, none⟩
def stepsRC : Contract := fun _ args =>
  match args with
  | [.sl n sz get, .agg [.int .i64 a, .int .i64 b, .int .i64 c, .int .i64 d, .int .i64 e, .int .i64 f]] => ⟨sz = 5 ∧ IsAir n get ∧ AirOk n get ∧ PathOk a b c d e f,
      .sl n 2 (fun i => [.int .i64 (stLo n get (sqE a b c d e f) (min c f) (max c f) 0 0 c i), .int .i64 (stHi n get (sqE a b c d e f) (min c f) (max c f) 0 0 c i)]), none⟩
  | _ => ⟨False, .top, none⟩
attribute [go_sem] botC topRC latRC winC sqRC rootsRC stepsRC
theorem mm_sq (c f : Int) : (max c f - min c f) * (max c f - min c f) = (f - c) * (f - c) := by
  rcases Int.le_total c f with h | h
  · rw [Int.max_eq_right h, Int.min_eq_left h]
  · rw [Int.max_eq_left h, Int.min_eq_right h, ← Int.neg_sub f c, Int.neg_mul_neg]
theorem over_bd {b t lo hi : Int} (h : lo ≤ hi) : 0 ≤ overE b t lo hi ∧ overE b t lo hi ≤ hi - lo := by unfold overE; omega
theorem overZ {n : Nat} {get : Nat → List V} (hok : AirOk n get) {i : Nat} (hi : i < n) : overE (botE get i) (topE n get i) 0 0 = 0 := by
  have h1 := bot_bd hok (show i ≤ n by omega)
  unfold overE; omega
theorem st_flat {n : Nat} {get : Nat → List V} {c f : Int} {i : Nat} (hz : max c f - min c f = 0) :
    partG n get (min c f) (max c f) 0 0 c i = (if (i : Int) = atE n get (min c f) then 1 else 0) ∧ byG (min c f) (max c f) 0 0 = 1 := by
  have hc : min c f = c := by omega
  have ha : allG (min c f) (max c f) 0 0 = 0 := by unfold allG; omega
  unfold partG byG
  rw [if_pos ha, if_pos ha, hc]
  exact ⟨rfl, rfl⟩
theorem st_slant {n : Nat} {get : Nat → List V} {c f : Int} {i : Nat} (hok : AirOk n get) (hi : i < n) (hz : ¬ max c f - min c f = 0) (h1 : 0 ≤ c ∧ c ≤ 10000) (h2 : 0 ≤ f ∧ f ≤ 10000) :
    partG n get (min c f) (max c f) 0 0 c i = winR n get i (max c f) - winR n get i (min c f) ∧ byG (min c f) (max c f) 0 0 = max c f - min c f := by
  have ha : ¬ allG (min c f) (max c f) 0 0 = 0 := by unfold allG; omega
  unfold partG byG
  rw [if_neg ha, if_neg ha, overZ hok hi, winR_part hok hi (by omega) (by omega) (by omega)]
  unfold allG
  omega

/-! The root by halves. -/
theorem le_root {s t m : Int} (hs : 0 ≤ s) (ht : 0 < t) (hm : 0 ≤ m) : m * m * t ≤ s ↔ m ≤ rootE s t := by
  have h0 := rootE_nonneg s t
  have h1 := rootE_sq hs ht
  have h2 := rootE_up hs ht
  generalize rootE s t = r at *
  constructor
  · intro h
    rcases Int.lt_or_le r m with q | q
    · exfalso
      have a : (r + 1) * (r + 1) ≤ m * m := Int.mul_le_mul (by omega) (by omega) (by omega) (by omega)
      have b := Int.mul_le_mul_of_nonneg_right a (Int.le_of_lt ht)
      omega
    · exact q
  · intro h
    have a : m * m ≤ r * r := Int.mul_le_mul h h hm h0
    have b := Int.mul_le_mul_of_nonneg_right a (Int.le_of_lt ht)
    omega
theorem root_lt {sq f d : Int} (h1 : 0 ≤ sq ∧ sq ≤ 1200000000) (h2 : 0 ≤ f) (h3 : f ≤ d) (h4 : 1 ≤ d) : rootE (sq * f * f) (d * d) ≤ 34641 := by
  have hd : 0 < d * d := Int.mul_pos (by omega) (by omega)
  have hff : f * f ≤ d * d := Int.mul_le_mul h3 h3 h2 (by omega)
  have hs0 : 0 ≤ f * f := Int.mul_nonneg h2 h2
  have hs : 0 ≤ sq * f * f := by rw [Int.mul_assoc]; exact Int.mul_nonneg h1.1 hs0
  have hle : sq * f * f ≤ 1200000000 * (d * d) := by rw [Int.mul_assoc]; exact Int.mul_le_mul h1.2 hff hs0 (by omega)
  rcases Int.lt_or_le 34641 (rootE (sq * f * f) (d * d)) with q | q
  · exfalso
    have := (le_root hs hd (show (0 : Int) ≤ 34642 by decide)).2 (by omega)
    omega
  · exact q
/-- The laws: true for every air and path. -/
def airPathC : Contract := fun _ args =>
  match args with
  | [.sl n sz get, .agg [.int .i64 a, .int .i64 b, .int .i64 c, .int .i64 d, .int .i64 e, .int .i64 f]] => ⟨sz = 5 ∧ IsAir n get, .bool true, none⟩
  | _ => ⟨False, .top, none⟩
attribute [go_sem] airPathC
theorem short_use {n : Nat} {get : Nat → List V} (h : shortAirB n get = true) : n ≤ 9 ∧ ∀ i, i < n → inN get i 4 ≤ 9 := by
  unfold shortAirB at h
  simp only [Bool.and_eq_true, decide_eq_true_eq] at h
  exact ⟨by omega, h.1⟩
theorem orE_errA {e : Int} (h : ¬ e = 0) (z g : V) : orE e z g = .tup [z, .int .i64 e] := if_neg h
theorem orE_noA {e : Int} (h : e = 0) (z g : V) : orE e z g = .tup [g, .int .i64 0] := if_pos h
theorem dec_self {α : Type} [DecidableEq α] {a : α} : decide (a = a) = true := decide_eq_true rfl
theorem ivs_err {e : Int} {y : V} (h : ¬ e = 0) (hy : Pu y) : ivsSame .nils e e y := .inl ⟨rfl, h, rfl, hy⟩
theorem ivs_fn {n : Nat} {f g : Nat → Int} (h : n ≤ 9223372036854775807) : ivsSame (.sl n 2 fun i => [.int .i64 (f i), .int .i64 (g i)]) 0 0 (.sl n 2 fun i => [.int .i64 (f i), .int .i64 (g i)]) :=
  .inr ⟨rfl, rfl, n, _, _, rfl, rfl, isIv_fn f g h, isIv_fn f g h, fun i _ => ⟨rfl, rfl⟩⟩
end Go.Fly
