/- Part of a proof: an evaluator of the model's code by abstract values, and plain laws for it. No conditions. -/
import Derived.Test.YtmlknpghkclffaaGreatDoorAU
set_option linter.unusedSimpArgs false
set_option linter.unusedVariables false
/- The law's helpers on the air; where the reference says the same. -/
namespace Go.Fly
open Go
def ownAirC : Contract := fun _ args =>
  match args with
  | [.sl n sz get] => ⟨sz = 5 ∧ IsAir n get ∧ n ≤ 1000 ∧ (∀ i, i < n → inN get i 4 ≤ 1000), .sl n 5 get, none⟩
  | _ => ⟨False, .top, none⟩
def ownListC : Contract := fun _ args =>
  match args with
  | [.sl n sz get] => ⟨sz = 2 ∧ IsIv n get ∧ n ≤ 1000000, .sl n 2 get, none⟩
  | _ => ⟨False, .top, none⟩
attribute [go_sem] ownAirC ownListC
theorem sameG_true {n : Nat} {a b : Nat → List V} (h : ∀ i, i < n → cell a i 0 = cell b i 0 ∧ cell a i 1 = cell b i 1) : sameG n a n b = true := by
  unfold sameG
  rw [Bool.and_eq_true]
  exact ⟨decide_eq_true rfl, decide_eq_true h⟩
/-- The top of a layer, as the reference reckons it. -/
def topR (n : Nat) (get : Nat → List V) (i : Nat) : Int := if (i : Int) = (n : Int) - 1 then 40000 else botE get (i + 1)
theorem topR_E {n : Nat} {get : Nat → List V} (hok : AirOk n get) {i : Nat} (hi : i < n) : botE get i < topR n get i ∧ botE get i ≤ 16000 ∧ (topR n get i = topE n get i ∨ (40000 ≤ topR n get i ∧ 40000 ≤ topE n get i)) := by
  have h1 := bot_bd hok (show i ≤ n by omega)
  have h2 := top_bd hok hi
  have h3 := hok.th i hi
  have hn := hok.cnt
  have h4 : (i : Int) ≤ 7 := by omega
  unfold topR topE
  by_cases e : (i : Int) = (n : Int) - 1
  · rw [if_pos e, if_pos e]; omega
  · rw [if_neg e, if_neg e]
    have e2 : botE get (i + 1) = botE get i + cell get i 0 := rfl
    exact ⟨by omega, by omega, .inl e2⟩
theorem topR_lt {n : Nat} {get : Nat → List V} (hok : AirOk n get) {i : Nat} (hi : i < n) {h : Int} (hh : h ≤ 20000) : h < topR n get i ↔ h < topE n get i := by
  obtain ⟨q1, q2, q3⟩ := topR_E hok hi
  omega
def botC : Contract := fun _ args =>
  match args with
  | [.sl n sz get, .int .i64 i] => ⟨sz = 5 ∧ IsAir n get ∧ AirOk n get ∧ 0 ≤ i ∧ i ≤ n, .int .i64 (botE get i.toNat), none⟩
  | _ => ⟨False, .top, none⟩
def topRC : Contract := fun _ args =>
  match args with
  | [.sl n sz get, .int .i64 i] => ⟨sz = 5 ∧ IsAir n get ∧ AirOk n get ∧ 0 ≤ i ∧ i < n, .int .i64 (topR n get i.toNat), none⟩
  | _ => ⟨False, .top, none⟩
def latRC : Contract := fun _ args =>
  match args with
  | [.sl n sz get, .int .i64 h] => ⟨sz = 5 ∧ IsAir n get ∧ AirOk n get ∧ 0 ≤ h ∧ h ≤ 20000, .int .i64 (atE n get h), none⟩
  | _ => ⟨False, .top, none⟩
attribute [go_sem] botC topRC latRC
/-! The root by halves. -/
theorem short_use {n : Nat} {get : Nat → List V} (h : shortAirB n get = true) : n ≤ 9 ∧ ∀ i, i < n → inN get i 4 ≤ 9 := by
  unfold shortAirB at h
  simp only [Bool.and_eq_true, decide_eq_true_eq] at h
  exact ⟨by omega, h.1⟩
theorem orE_errA {e : Int} (h : ¬ e = 0) (z g : V) : orE e z g = .tup [z, .int .i64 e] := if_neg h
theorem orE_noA {e : Int} (h : e = 0) (z g : V) : orE e z g = .tup [g, .int .i64 0] := if_pos h
theorem dec_self {α : Type} [DecidableEq α] {a : α} : decide (a = a) = true := decide_eq_true rfl
end Go.Fly
