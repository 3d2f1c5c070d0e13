/- Part of a proof: an evaluator of the model's code by abstract values, and plain laws for it. No conditions. -/
import Derived.Test.YtmlknpghkclffaaGreatDoorAY
set_option linter.unusedSimpArgs false
set_option linter.unusedVariables false
/- The reference's energies: what arrives, what was emitted. -/
namespace Go.Fly
open Go
def hrdI (n' : Nat) (hd : Nat → List V) (m : Int) : Int := firstL [err (!decide ((n' : Int) = m)) 2, firstI (fun i => ivE (cell hd i 0) (cell hd i 1) 10000000000000) 0 n']
def hrdRC : Contract := fun _ args =>
  match args with
  | [.sl n sz hd, .int .i64 bands] => ⟨sz = 2 ∧ IsIv n hd ∧ n ≤ 1000000, .int .i64 (hrdI n hd bands), none⟩
  | _ => ⟨False, .top, none⟩
def arRC : Contract := fun _ args =>
  match args with
  | [.sl n sz p, .sl n' sz' en] => ⟨sz = 2 ∧ IsIv n p ∧ sz' = 1 ∧ n' = n ∧ IsInts n en ∧ n ≤ 1000000 ∧ (∀ i, i < n → 0 ≤ cell p i 0 ∧ cell p i 0 ≤ 1000 ∧ 0 ≤ cell p i 1 ∧ cell p i 1 ≤ 1000 ∧ 0 ≤ intAt en i ∧ intAt en i ≤ 10000000000000),
      .sl n 2 (fun i => [.int .i64 (arrLo (intAt en i) (cell p i 0)), .int .i64 (arrHi (intAt en i) (cell p i 1))]), none⟩
  | _ => ⟨False, .top, none⟩
def emX (p hd : Nat → List V) (i : Nat) : Int := emLo (cell hd i 0) (cell p i 1)
def emY (p hd : Nat → List V) (i : Nat) : Int := emHi (cell hd i 1) (cell p i 0)
def emBad (n : Nat) (p hd : Nat → List V) : Int := idxF (fun i => decide (emY p hd i < emX p hd i)) 0 n
def emRC : Contract := fun _ args =>
  match args with
  | [.sl n sz p, .sl n' sz' hd] => ⟨sz = 2 ∧ IsIv n p ∧ sz' = 2 ∧ n' = n ∧ IsIv n hd ∧ n ≤ 1000000 ∧ (∀ i, i < n → 0 ≤ cell p i 0 ∧ cell p i 0 ≤ 1000 ∧ 0 ≤ cell p i 1 ∧ cell p i 1 ≤ 1000 ∧ 0 ≤ cell hd i 0 ∧ cell hd i 0 ≤ cell hd i 1 ∧ cell hd i 1 ≤ 10000000000000),
      orE (if emBad n p hd = -1 then 0 else 18) .nils (.sl n 2 (fun i => [.int .i64 (emX p hd i), .int .i64 (emY p hd i)])), none⟩
  | _ => ⟨False, .top, none⟩
/-- The law on what arrives: true for every air, path, energies and what is heard. -/
def airSoundC : Contract := fun _ args =>
  match args with
  | [.sl n sz get, .agg [.int .i64 a, .int .i64 b, .int .i64 c, .int .i64 d, .int .i64 e, .int .i64 f], .agg [.sl m szm en, .sl m2 szm2 hd]] => ⟨sz = 5 ∧ IsAir n get ∧ szm = 1 ∧ IsInts m en ∧ szm2 = 2 ∧ IsIv m2 hd, .bool true, none⟩
  | _ => ⟨False, .top, none⟩
attribute [go_sem] hrdRC arRC emRC airSoundC
theorem emLo_bd {lo ph : Int} (h1 : 0 ≤ lo ∧ lo ≤ 10000000000000) (h2 : 0 ≤ ph) : 0 ≤ emLo lo ph ∧ emLo lo ph ≤ 10000000000000001 := by
  unfold emLo
  split
  · rename_i h
    have a := Int.ediv_nonneg (show 0 ≤ lo * 1000 + ph - 1 by omega) h2
    have b : (lo * 1000 + ph - 1) / ph < 10000000000000001 := Int.ediv_lt_of_lt_mul h (by
      have := Int.mul_le_mul_of_nonneg_left (show 1 ≤ ph by omega) (show (0 : Int) ≤ 10000000000000000 by decide)
      omega)
    omega
  · split <;> omega
theorem emHi_bd {hi pl : Int} (h1 : 0 ≤ hi) (h2 : 0 ≤ pl) : 0 ≤ emHi hi pl ∧ emHi hi pl ≤ 10000000000000 := by
  unfold emHi
  split
  · have a := Int.ediv_nonneg (show 0 ≤ hi * 1000 by omega) h2
    omega
  · omega
end Go.Fly
