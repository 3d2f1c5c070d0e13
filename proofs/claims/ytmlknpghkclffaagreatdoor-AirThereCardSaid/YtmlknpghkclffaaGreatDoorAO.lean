/- Part of a proof: an evaluator of the model's code by abstract values, and plain laws for it. No conditions. -/
import Derived.Test.YtmlknpghkclffaaGreatDoorAM
import Derived.Test.YtmlknpghkclffaaGreatDoorAN
import Derived.Test.YtmlknpghkclffaaGreatDoorAK
set_option linter.unusedSimpArgs false
set_option linter.unusedVariables false
/- Paths and their echoes through the air, at any input. -/
namespace Go.Fly
open Go
theorem stG_bd {n : Nat} {get : Nat → List V} {sq z0 z1 y0 y1 flat : Int} (hsq : 0 ≤ sq ∧ sq ≤ 1200000000) (hz : z0 ≤ z1) (hy : y0 ≤ y1) (i : Nat) :
    0 ≤ stLo n get sq z0 z1 y0 y1 flat i ∧ stLo n get sq z0 z1 y0 y1 flat i ≤ stHi n get sq z0 z1 y0 y1 flat i ∧ stHi n get sq z0 z1 y0 y1 flat i ≤ 347 := by
  obtain ⟨hp0, hpb⟩ := partG_bd (n := n) (get := get) (flat := flat) (i := i) hz hy
  have hb1 : 1 ≤ byG z0 z1 y0 y1 := by unfold byG allG; split <;> omega
  unfold stHi stLo
  generalize partG n get z0 z1 y0 y1 flat i = p at *
  generalize byG z0 z1 y0 y1 = b at *
  have hpp : 0 ≤ p * p := Int.mul_nonneg hp0 hp0
  have hle : p * p ≤ b * b := Int.mul_le_mul hpb hpb hp0 (by omega)
  have hs1 : sq * p * p ≤ 1200000000 * (b * b) := by
    rw [Int.mul_assoc]
    exact Int.mul_le_mul hsq.2 hle hpp (by omega)
  have hs0 : 0 ≤ sq * p * p := by rw [Int.mul_assoc]; exact Int.mul_nonneg hsq.1 hpp
  have hbb : 1 ≤ b * b := by
    have := Int.mul_le_mul hb1 hb1 (by omega) (by omega : 0 ≤ b)
    omega
  have hT : 0 < b * b * 100 * 100 := by omega
  have hr0 := rootE_nonneg (sq * p * p) (b * b * 100 * 100)
  have hr := rootE_sq hs0 hT
  have hrb : rootE (sq * p * p) (b * b * 100 * 100) ≤ 346 := by
    generalize rootE (sq * p * p) (b * b * 100 * 100) = r at *
    rcases Int.le_total r 346 with q | q
    · exact q
    · by_cases e : r = 346
      · omega
      · exfalso
        have h1 : 347 * 347 ≤ r * r := Int.mul_le_mul (by omega) (by omega) (by omega) (by omega)
        have h2 : 120409 * (b * b * 100 * 100) ≤ r * r * (b * b * 100 * 100) := Int.mul_le_mul_of_nonneg_right (by omega) (by omega)
        omega
  unfold rootUp
  split <;> omega
/-- The transmittance of a way in a band. -/
def qLo (n : Nat) (get : Nat → List V) (sq z0 z1 y0 y1 flat : Int) (k : Nat) : Int := passLo get (fun i => stHi n get sq z0 z1 y0 y1 flat i) k n
def qHi (n : Nat) (get : Nat → List V) (sq z0 z1 y0 y1 flat : Int) (k : Nat) : Int := passHi get (fun i => stLo n get sq z0 z1 y0 y1 flat i) k n
def ech (a b c d e f : Int) : Int := (d - a) * (d - a) + (e - b) * (e - b) + (f + c) * (f + c)
theorem ech_bd {a b c d e f : Int} (h : PathOk a b c d e f) : 0 ≤ ech a b c d e f ∧ ech a b c d e f ≤ 1200000000 ∧ (0 ≤ (d - a) * (d - a) ∧ (d - a) * (d - a) ≤ 400000000) ∧ (0 ≤ (e - b) * (e - b) ∧ (e - b) * (e - b) ≤ 400000000) ∧ (0 ≤ (f + c) * (f + c) ∧ (f + c) * (f + c) ≤ 400000000) := by
  obtain ⟨⟨h1, h2, h3⟩, ⟨h4, h5, h6⟩, -⟩ := h
  have q1 := sqBd (show -20000 ≤ d - a by omega) (show d - a ≤ 20000 by omega)
  have q2 := sqBd (show -20000 ≤ e - b by omega) (show e - b ≤ 20000 by omega)
  have q3 := sqBd (show -20000 ≤ f + c by omega) (show f + c ≤ 20000 by omega)
  unfold ech
  omega
def len3C : Contract := fun _ args =>
  match args with
  | [.agg [.int .i64 a, .int .i64 b, .int .i64 c, .int .i64 d, .int .i64 e, .int .i64 f]] => ⟨True, orE (pathE a b c d e f) (.agg [.int .i64 0, .int .i64 0]) (.agg [.int .i64 (rootE (sqE a b c d e f) 1), .int .i64 (rootUp (sqE a b c d e f) 1)]), none⟩
  | _ => ⟨False, .top, none⟩
def groundC : Contract := fun _ args =>
  match args with
  | [.agg [.int .i64 a, .int .i64 b, .int .i64 c, .int .i64 d, .int .i64 e, .int .i64 f]] => ⟨PathOk a b c d e f, .agg [.int .i64 (ech a b c d e f), .int .i64 0, .int .i64 c, .int .i64 0, .int .i64 f, .int .i64 0], none⟩
  | _ => ⟨False, .top, none⟩
def steps3C : Contract := fun _ args =>
  match args with
  | [.sl n sz get, .agg [.int .i64 a, .int .i64 b, .int .i64 c, .int .i64 d, .int .i64 e, .int .i64 f]] => ⟨sz = 5 ∧ IsAir n get,
      orE (checkE n get a b c d e f) .nils (.sl n 2 (fun i => [.int .i64 (stLo n get (sqE a b c d e f) (min c f) (max c f) 0 0 c i), .int .i64 (stHi n get (sqE a b c d e f) (min c f) (max c f) 0 0 c i)])), none⟩
  | _ => ⟨False, .top, none⟩
def passed3C : Contract := fun _ args =>
  match args with
  | [.sl n sz get, .agg [.int .i64 a, .int .i64 b, .int .i64 c, .int .i64 d, .int .i64 e, .int .i64 f]] => ⟨sz = 5 ∧ IsAir n get,
      orE (checkE n get a b c d e f) .nils (.sl (inN get 0 4) 2 (fun k => [.int .i64 (qLo n get (sqE a b c d e f) (min c f) (max c f) 0 0 c k), .int .i64 (qHi n get (sqE a b c d e f) (min c f) (max c f) 0 0 c k)])), none⟩
  | _ => ⟨False, .top, none⟩
def echo3C : Contract := fun _ args =>
  match args with
  | [.sl n sz get, .agg [.int .i64 a, .int .i64 b, .int .i64 c, .int .i64 d, .int .i64 e, .int .i64 f]] => ⟨sz = 5 ∧ IsAir n get,
      orE (checkE n get a b c d e f) .nils (.sl (inN get 0 4) 2 (fun k => [.int .i64 (qLo n get (ech a b c d e f) 0 c 0 f 0 k), .int .i64 (qHi n get (ech a b c d e f) 0 c 0 f 0 k)])), none⟩
  | _ => ⟨False, .top, none⟩
attribute [go_sem] len3C groundC steps3C passed3C echo3C
/-! Where a ray turns. -/
def divC : Contract := fun _ args =>
  match args with
  | [.int .i64 a, .int .i64 b] => ⟨0 ≤ a ∧ a ≤ 1000000000000 ∧ 0 ≤ b ∧ b ≤ 1000000000000, .int .i64 ((Nat.gcd a.toNat b.toNat : Nat) : Int), none⟩
  | _ => ⟨False, .top, none⟩
def turnI (n : Nat) (get : Nat → List V) (i : Nat) (num den : Int) : Int := idxF (fun j => decide (den ≤ cell get j 1 * num)) i (n - i)
def turn1 (n : Nat) (get : Nat → List V) (i num den : Int) : Int := firstL [airE n get, lixE n i, rng num 1 100000, rng den 1 100000]
def turnE (n : Nat) (get : Nat → List V) (i num den : Int) : Int :=
  if turn1 n get i num den ≠ 0 then turn1 n get i num den else if Nat.gcd num.toNat den.toNat ≠ 1 then 1 else if turnI n get i.toNat num den = -1 then 7 else 0
def turn3C : Contract := fun _ args =>
  match args with
  | [.sl n sz get, .int .i64 i, .agg [.int .i64 num, .int .i64 den]] => ⟨sz = 5 ∧ IsAir n get, orE (turnE n get i num den) (.int .i64 0) (.int .i64 (turnI n get i.toNat num den)), none⟩
  | _ => ⟨False, .top, none⟩
attribute [go_sem] divC turn3C
theorem idxF_hit {p : Nat → Bool} : ∀ {k m i : Nat}, k < m → p (i + k) = true → (∀ j, j < k → p (i + j) = false) → idxF p i m = ((i + k : Nat) : Int)
  | 0, m + 1, i, _, h, _ => by
    have h' : p i = true := h
    unfold idxF
    rw [if_pos h']
    rfl
  | k + 1, m + 1, i, hk, h, hn => by
    have h0 : p i = false := hn 0 (by omega)
    have := idxF_hit (p := p) (k := k) (m := m) (i := i + 1) (by omega) (by rw [show i + 1 + k = i + (k + 1) by omega]; exact h) fun j hj => by rw [show i + 1 + j = i + (j + 1) by omega]; exact hn (j + 1) (by omega)
    unfold idxF
    rw [if_neg (by rw [h0]; decide), this, show i + 1 + k = i + (k + 1) by omega]
theorem idxF_none {p : Nat → Bool} : ∀ {m i : Nat}, (∀ j, j < m → p (i + j) = false) → idxF p i m = -1
  | 0, i, _ => rfl
  | m + 1, i, h => by
    have h0 : p i = false := h 0 (by omega)
    have := idxF_none (p := p) (m := m) (i := i + 1) fun j hj => by rw [show i + 1 + j = i + (j + 1) by omega]; exact h (j + 1) (by omega)
    unfold idxF
    rw [if_neg (by rw [h0]; decide), this]
end Go.Fly
