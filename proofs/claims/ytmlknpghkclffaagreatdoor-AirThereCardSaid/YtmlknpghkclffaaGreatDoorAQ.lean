/- Part of a proof: an evaluator of the model's code by abstract values, and plain laws for it. No conditions. -/
import Derived.Test.YtmlknpghkclffaaGreatDoorAP
set_option linter.unusedSimpArgs false
set_option linter.unusedVariables false
/- A stable sort of a few numbers, as it is reckoned. -/
namespace Go.Fly
open Go
def rankC : Contract := fun _ args =>
  match args with
  | [.int .i64 a, .int .i64 b, .cptr [.sl n sz get], .cptr [.int .i64 x, .int .i64 y]] => ⟨sz = 5 ∧ IsAir n get ∧ airE n get = 0 ∧ (0 ≤ a ∧ a < n) ∧ (0 ≤ b ∧ b < n) ∧ (-20000 ≤ x ∧ x ≤ 20000) ∧ (-20000 ≤ y ∧ y ≤ 20000),
      .int .i64 (cmpV get b.toNat a.toNat x y), none⟩
  | _ => ⟨False, .top, none⟩
attribute [go_sem] rankC
def swapG (g : Nat → Int) (j : Nat) (i : Nat) : Int := if i = j then g (j - 1) else if i = j - 1 then g j else g i
def insG (lt : Int → Int → Bool) : Nat → (Nat → Int) → Nat → Int
  | 0, g => g
  | j + 1, g => if lt (g (j + 1)) (g j) = true then insG lt j (swapG g (j + 1)) else g
def sortG (lt : Int → Int → Bool) : Nat → Nat → (Nat → Int) → Nat → Int
  | _, 0, g => g
  | i, k + 1, g => sortG lt (i + 1) k (insG lt i g)
theorem insG_yes {lt : Int → Int → Bool} {j : Nat} {g : Nat → Int} (hj : 0 < j) (h : lt (g j) (g (j - 1)) = true) : insG lt j g = insG lt (j - 1) (swapG g j) := by
  obtain ⟨j, rfl⟩ : ∃ k, j = k + 1 := ⟨j - 1, by omega⟩
  exact if_pos h
theorem insG_no {lt : Int → Int → Bool} {j : Nat} {g : Nat → Int} (h : j = 0 ∨ lt (g j) (g (j - 1)) = false) : insG lt j g = g := by
  cases j with
  | zero => rfl
  | succ j =>
    rcases h with h | h
    · omega
    · exact if_neg (by rw [show g j = g (j + 1 - 1) from rfl, h]; decide)
theorem sortG_step {lt : Int → Int → Bool} {i n : Nat} {g : Nat → Int} (h : i < n) : sortG lt i (n - i) g = sortG lt (i + 1) (n - (i + 1)) (insG lt i g) := by
  rw [show n - i = (n - (i + 1)) + 1 by omega]; rfl
theorem sortG_end {lt : Int → Int → Bool} {i n : Nat} {g : Nat → Int} (h : ¬ i < n) : sortG lt i (n - i) g = g := by
  rw [show n - i = 0 by omega]; rfl
/-- All numbers are indices. -/
def Idx (n : Nat) (g : Nat → Int) : Prop := ∀ i, i < n → 0 ≤ g i ∧ g i < n
theorem Idx.swap {n : Nat} {g : Nat → Int} (h : Idx n g) {j : Nat} (hj : j < n) : Idx n (swapG g j) := fun i hi => by
  unfold swapG
  split
  · exact h _ (by omega)
  · split
    · exact h _ hj
    · exact h _ hi

def rkE (n : Nat) (get : Nat → List V) (x y : Int) : Int := firstL [airE n get, alongE x y]
def rankG (n : Nat) (get : Nat → List V) (x y : Int) (i : Nat) : Int := sortG (fun a b => decide (cmpV get b.toNat a.toNat x y < 0)) 1 (n - 1) (fun i => (i : Int)) i
def rank3C : Contract := fun _ args =>
  match args with
  | [.sl n sz get, .agg [.int .i64 x, .int .i64 y]] => ⟨sz = 5 ∧ IsAir n get, orE (rkE n get x y) .nils (.sl n 1 (fun i => [.int .i64 (rankG n get x y i)])), none⟩
  | _ => ⟨False, .top, none⟩
attribute [go_sem] rank3C
end Go.Fly
