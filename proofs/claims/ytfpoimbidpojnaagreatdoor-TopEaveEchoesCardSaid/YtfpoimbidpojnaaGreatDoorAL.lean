/- Part of a proof: an evaluator of the model's code by abstract values, and plain laws for it. No conditions. -/
import Derived.Test.YtfpoimbidpojnaaGreatDoorAJ
import Derived.Test.YtfpoimbidpojnaaGreatDoorAK
set_option linter.unusedSimpArgs false
set_option linter.unusedVariables false
section
/- Contracts of the verifier's functions. -/
namespace Go.Fly
open Go

theorem app0 {f g : Nat → List V} : (fun i => if i < 0 then f i else g (i - 0)) = g := by funext i; simp
theorem ivs_ok {n : Nat} {g : Nat → List V} (h : IsIv n g) : ∀ i, i < n → ∀ v, v ∈ g i → Pu v ∧ oneC v = true := fun i hi v hv => by
  rw [h.2 i hi] at hv; exact ones2 v hv
theorem ones5s {a b c d : Int} {n sz : Nat} {g : Nat → List V} (h : Pu (.sl n sz g)) : ∀ v ∈ [V.int .i64 a, V.int .i64 b, V.int .i64 c, V.int .i64 d, V.sl n sz g], Pu v ∧ oneC v = true := fun v hv => by
  simp only [List.mem_cons, List.not_mem_nil, or_false] at hv
  rcases hv with rfl | rfl | rfl | rfl | rfl <;> first | exact one_int | exact ⟨h, rfl⟩
def airCopyC : Contract := fun _ args =>
  match args with
  | [.sl n sz get] => ⟨sz = 5 ∧ IsAir n get ∧ n ≤ 8 ∧ (∀ i, i < n → inN get i 4 ≤ 8), .sl n 5 get, none⟩
  | _ => ⟨False, .top, none⟩
def sameC : Contract := fun _ args =>
  match args with
  | [.sl n sz a, .sl n' sz' b] => ⟨sz = 2 ∧ sz' = 2 ∧ n' = n ∧ IsIv n a ∧ IsIv n b ∧ (∀ i, i < n → cell a i 0 = cell b i 0 ∧ cell a i 1 = cell b i 1), .bool true, none⟩
  | _ => ⟨False, .top, none⟩
attribute [go_sem] airCopyC sameC
end Go.Fly
end
section
/- Bounds of steps and transmittances. -/
namespace Go.Fly
open Go

theorem cell_fn0 {k k2 : IntKind} {f g : Nat → Int} {i : Nat} : cell (fun i => [V.int k (f i), V.int k2 (g i)]) i 0 = f i := rfl
theorem cell_fn1 {k k2 : IntKind} {f g : Nat → Int} {i : Nat} : cell (fun i => [V.int k (f i), V.int k2 (g i)]) i 1 = g i := rfl
theorem cast3 : ((3 : Nat) : Int) = 3 := rfl
attribute [go_sem] cell_fn0 cell_fn1 cast3
theorem part_bd {n : Nat} {get : Nat → List V} {z0 z1 flat : Int} {i : Nat} (hz : z0 ≤ z1) : 0 ≤ partE n get z0 z1 flat i ∧ partE n get z0 z1 flat i ≤ byE z0 z1 ∧ 1 ≤ byE z0 z1 := by
  unfold partE byE
  by_cases h : z1 - z0 = 0
  · rw [if_pos h, if_pos h]
    split <;> omega
  · rw [if_neg h, if_neg h]
    have := over_le (bot := botE get i) (top := topE n get i) hz
    omega
theorem step_bd {n : Nat} {get : Nat → List V} {sq z0 z1 flat : Int} (hsq : 0 ≤ sq ∧ sq ≤ 900000000) (hz : z0 ≤ z1) (i : Nat) :
    0 ≤ stepLo n get sq z0 z1 flat i ∧ stepLo n get sq z0 z1 flat i ≤ stepHi n get sq z0 z1 flat i ∧ stepHi n get sq z0 z1 flat i ≤ 301 := by
  obtain ⟨hp0, hpb, hb1⟩ := part_bd (n := n) (get := get) (flat := flat) (i := i) hz
  unfold stepHi stepLo
  generalize partE n get z0 z1 flat i = p at *
  generalize byE z0 z1 = b at *
  have hpp : 0 ≤ p * p := Int.mul_nonneg hp0 hp0
  have hle : p * p ≤ b * b := Int.mul_le_mul hpb hpb hp0 (by omega)
  have hs1 : sq * p * p ≤ 900000000 * (b * b) := by
    rw [Int.mul_assoc]
    exact Int.mul_le_mul hsq.2 hle hpp (by omega)
  have hs0 : 0 ≤ sq * p * p := by rw [Int.mul_assoc]; exact Int.mul_nonneg hsq.1 hpp
  have hbb : 1 ≤ b * b := by
    have := Int.mul_le_mul hb1 hb1 (by omega) (by omega : 0 ≤ b)
    omega
  have hT : 0 < b * b * 100 * 100 := by omega
  have hr0 := rootE_nonneg (sq * p * p) (b * b * 100 * 100)
  have hr := rootE_sq hs0 hT
  have hrb : rootE (sq * p * p) (b * b * 100 * 100) ≤ 300 := by
    generalize rootE (sq * p * p) (b * b * 100 * 100) = r at *
    rcases Int.le_total r 300 with q | q
    · exact q
    · by_cases e : r = 300
      · omega
      · exfalso
        have h1 : 301 * 301 ≤ r * r := Int.mul_le_mul (by omega) (by omega) (by omega) (by omega)
        have h2 : 90601 * (b * b * 100 * 100) ≤ r * r * (b * b * 100 * 100) := Int.mul_le_mul_of_nonneg_right (by omega) (by omega)
        omega
  unfold rootUp
  split <;> omega
theorem pass_le {get : Nat → List V} {hl hh : Nat → Int} {b : Nat} (hst : ∀ i, 0 ≤ hh i ∧ hh i ≤ hl i) : ∀ {n : Nat}, (∀ i, i < n → 0 ≤ cell (inG get i 4) b 0 ∧ cell (inG get i 4) b 0 ≤ cell (inG get i 4) b 1 ∧ cell (inG get i 4) b 1 ≤ 1000) →
    passLo get hl b n ≤ passHi get hh b n
  | 0, _ => by simp [passLo, passHi]
  | n + 1, h => by
    have ih := pass_le (hl := hl) (hh := hh) hst (n := n) fun i hi => h i (by omega)
    have hn := h n (by omega)
    have hb := pass_bd (get := get) (hl := hl) (hh := hh) (b := b) (n := n) fun i hi => by have := h i (by omega); omega
    have hk := hst n
    simp only [passLo, passHi]
    have a := down_le hn.1 (show cell (inG get n 4) b 0 ≤ 1000 by omega) (k := (hh n).toNat) (j := (hl n).toNat) hb.1.1 (by omega)
    have c := down_up hn.1 (k := (hh n).toNat) hb.1.1
    have d := up_mono hn.1 hn.2.1 (k := (hh n).toNat) hb.1.1 ih
    omega
/-- The transmittances of a valid path. -/
theorem p_bd {n : Nat} {get : Nat → List V} {a b c d e f : Int} (hok : AirOk n get) (hp : PathOk a b c d e f) {k : Nat} (hk : k < inN get 0 4) :
    0 ≤ pLo n get a b c d e f k ∧ pLo n get a b c d e f k ≤ pHi n get a b c d e f k ∧ pHi n get a b c d e f k ≤ 1000 := by
  have hsq := sqE_bd hp
  have hst := fun i => step_bd (n := n) (get := get) (flat := c) hsq (show min c f ≤ max c f by omega) i
  have h1 := pass_bd (get := get) (hl := fun i => stepHi n get (sqE a b c d e f) (min c f) (max c f) c i) (hh := fun i => stepLo n get (sqE a b c d e f) (min c f) (max c f) c i) (b := k) (n := n) fun i hi => by
    have := hok.pass i hi k hk; omega
  have h2 := pass_le (get := get) (hl := fun i => stepHi n get (sqE a b c d e f) (min c f) (max c f) c i) (hh := fun i => stepLo n get (sqE a b c d e f) (min c f) (max c f) c i) (b := k) (fun i => ⟨(hst i).1, (hst i).2.1⟩) (n := n) fun i hi => hok.pass i hi k hk
  unfold pLo pHi
  exact ⟨h1.1.1, h2, h1.2.2⟩
end Go.Fly
end
