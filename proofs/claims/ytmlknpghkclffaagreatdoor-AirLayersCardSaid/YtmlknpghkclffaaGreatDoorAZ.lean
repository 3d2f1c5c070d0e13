/- Part of a proof: an evaluator of the model's code by abstract values, and plain laws for it. No conditions. -/
import Derived.Test.YtmlknpghkclffaaGreatDoorAY
import Derived.Test.YtmlknpghkclffaaGreatDoorAL
set_option linter.unusedSimpArgs false
set_option linter.unusedVariables false
/- The reference's layers. -/
namespace Go.Fly
open Go
def toldC : Contract := fun _ args =>
  match args with
  | [.sl n sz get] => ⟨sz = 5 ∧ IsAir n get ∧ n ≤ 1000000, .sl n 5 get, none⟩
  | _ => ⟨False, .top, none⟩
def sameAirC : Contract := fun _ args =>
  match args with
  | [.sl n sz a, .sl n' sz' b] => ⟨sz = 5 ∧ sz' = 5 ∧ n' = n ∧ IsAir n a ∧ ∀ i, i < n → b i = a i, .bool true, none⟩
  | _ => ⟨False, .top, none⟩
def laysSame (x : V) (e bad : Int) (y : V) : Prop :=
  (e = bad ∧ bad ≠ 0 ∧ x = .nils ∧ Pu y) ∨ (e = 0 ∧ bad = 0 ∧ ∃ n a, x = .sl n 5 a ∧ y = .sl n 5 a ∧ IsAir n a ∧ n ≤ 1000000)
def laysC : Contract := fun _ args =>
  match args with
  | [x, .int .i64 e, .int .i64 bad, y] => ⟨laysSame x e bad y, .bool true, none⟩
  | _ => ⟨False, .top, none⟩
def revRC : Contract := fun _ args =>
  match args with
  | [.sl n sz get] => ⟨sz = 5 ∧ IsAir n get ∧ airE n get = 0, .sl n 5 (revG get), none⟩
  | _ => ⟨False, .top, none⟩
def splRC : Contract := fun _ args =>
  match args with
  | [.sl n sz get, .int .i64 h] => ⟨sz = 5 ∧ IsAir n get ∧ spl1 n get h = 0,
      if splE n get h ≠ 0 then .tup [.nils, .int .i64 (splE n get h)] else .tup [.sl (n + 1) 5 (repG get (splV n get h) (splI n get h)), .int .i64 0], none⟩
  | _ => ⟨False, .top, none⟩
def airHeightC : Contract := fun _ args =>
  match args with
  | [.sl n sz get, .int .i64 h] => ⟨sz = 5 ∧ IsAir n get, .bool true, none⟩
  | _ => ⟨False, .top, none⟩
attribute [go_sem] toldC sameAirC laysC revRC splRC airHeightC
theorem lays_err {e : Int} {y : V} (h : ¬ e = 0) (hy : Pu y) : laysSame .nils e e y := .inl ⟨rfl, h, rfl, hy⟩
theorem lays_ok {n : Nat} {a : Nat → List V} (h : IsAir n a) (hn : n ≤ 1000000) : laysSame (.sl n 5 a) 0 0 (.sl n 5 a) := .inr ⟨rfl, rfl, n, a, rfl, rfl, h, hn⟩
/-- A layer begins at a height only where the height lies in it. -/
theorem twice_at {n : Nat} {get : Nat → List V} (hok : AirOk n get) {i : Nat} (hi : i < n) {h : Int} (hb : botE get i = h) (hh : h ≤ 20000) : splI n get h = i := by
  have ht := top_bd hok hi
  have h3 : h < topE n get i := by omega
  have := atE_eq (n := n) (get := get) (h := h) hi h3 fun j hj q => by
    have h1 := bot_lt hok (i := j + 1) (j := i)
    have h2 : topE n get j = botE get (j + 1) := top_next (by omega)
    by_cases e : j + 1 = i
    · rw [e] at h2; omega
    · have := h1 (by omega) (by omega)
      omega
  unfold splI
  rw [this]; exact Int.toNat_natCast i
end Go.Fly
