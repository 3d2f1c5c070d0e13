/- Part of a proof: an evaluator of the model's code by abstract values, and plain laws for it. No conditions. -/
import Derived.Test.YtfpoimbidpojnaaDoorAF
set_option linter.unusedSimpArgs false
set_option linter.unusedVariables false
/- Types of aircraft: what their checks say. -/
namespace Go.Fly
open Go

def sharesE0 (n : Nat) (g : Nat → List V) : Int := firstL [err (decide ((n : Int) = 0)) 12, err (decide (8 < (n : Int))) 5, rngs n g 0 1000]
def sharesE (n : Nat) (g : Nat → List V) : Int := if sharesE0 n g ≠ 0 then sharesE0 n g else err (!decide (sumI (intAt g) n = 1000)) 1
def sharesC : Contract := fun _ args =>
  match args with
  | [.sl n sz g] => ⟨sz = 1 ∧ IsInts n g, .int .i64 (sharesE n g), none⟩
  | _ => ⟨False, .top, none⟩
theorem rngs_zero {n : Nat} {g : Nat → List V} {a b : Int} : rngs n g a b = 0 ↔ ∀ i, i < n → a ≤ intAt g i ∧ intAt g i ≤ b := by
  unfold rngs
  rw [firstI_zero]
  exact ⟨fun h i hi => rng_zero.1 (h i (Nat.zero_le _) (by omega)), fun h i _ hi => rng_zero.2 (h i (by omega))⟩
theorem sharesE0_zero {n : Nat} {g : Nat → List V} : sharesE0 n g = 0 ↔ 0 < n ∧ n ≤ 8 ∧ ∀ i, i < n → 0 ≤ intAt g i ∧ intAt g i ≤ 1000 := by
  unfold sharesE0
  rw [firstL_zero]
  simp only [List.mem_cons, List.not_mem_nil, or_false, forall_eq_or_imp, forall_eq, err_zero (show (12 : Int) ≠ 0 by decide), err_zero (show (5 : Int) ≠ 0 by decide), decide_eq_false_iff_not, rngs_zero]
  exact ⟨fun ⟨h1, h2, h3⟩ => ⟨by omega, by omega, h3⟩, fun ⟨h1, h2, h3⟩ => ⟨by omega, by omega, h3⟩⟩
theorem sharesE_zero {n : Nat} {g : Nat → List V} : sharesE n g = 0 ↔ (0 < n ∧ n ≤ 8 ∧ ∀ i, i < n → 0 ≤ intAt g i ∧ intAt g i ≤ 1000) ∧ sumI (intAt g) n = 1000 := by
  unfold sharesE
  by_cases h : sharesE0 n g = 0
  · simp only [h, ne_eq, not_true_eq_false, if_false, err_zero (show (1 : Int) ≠ 0 by decide), Bool.not_eq_false', decide_eq_true_eq]
    exact ⟨fun q => ⟨sharesE0_zero.1 h, q⟩, fun q => q.2⟩
  · simp only [ne_eq, h, not_false_eq_true, if_true, false_iff]
    exact fun q => h (sharesE0_zero.2 q.1)

def sqBad (g : Nat → List V) (i : Nat) : Bool := if i = 0 then !decide (intAt g 0 = 0) else decide (intAt g i ≤ intAt g (i - 1))
def squaresE0 (n : Nat) (g : Nat → List V) : Int := firstL [err (decide ((n : Int) = 0)) 12, err (decide (8 < (n : Int))) 5, rngs n g 0 100000000000]
def squaresE (n : Nat) (g : Nat → List V) : Int := if squaresE0 n g ≠ 0 then squaresE0 n g else firstI (fun i => err (sqBad g i) 11) 0 n
def squaresC : Contract := fun _ args =>
  match args with
  | [.sl n sz g] => ⟨sz = 1 ∧ IsInts n g, .int .i64 (squaresE n g), none⟩
  | _ => ⟨False, .top, none⟩
theorem squaresE0_zero {n : Nat} {g : Nat → List V} : squaresE0 n g = 0 ↔ 0 < n ∧ n ≤ 8 ∧ ∀ i, i < n → 0 ≤ intAt g i ∧ intAt g i ≤ 100000000000 := by
  unfold squaresE0
  rw [firstL_zero]
  simp only [List.mem_cons, List.not_mem_nil, or_false, forall_eq_or_imp, forall_eq, err_zero (show (12 : Int) ≠ 0 by decide), err_zero (show (5 : Int) ≠ 0 by decide), decide_eq_false_iff_not, rngs_zero]
  exact ⟨fun ⟨h1, h2, h3⟩ => ⟨by omega, by omega, h3⟩, fun ⟨h1, h2, h3⟩ => ⟨by omega, by omega, h3⟩⟩
theorem squaresE_zero {n : Nat} {g : Nat → List V} : squaresE n g = 0 ↔ (0 < n ∧ n ≤ 8 ∧ ∀ i, i < n → 0 ≤ intAt g i ∧ intAt g i ≤ 100000000000) ∧ ∀ i, i < n → sqBad g i = false := by
  unfold squaresE
  by_cases h : squaresE0 n g = 0
  · simp only [h, ne_eq, not_true_eq_false, if_false]
    rw [firstI_zero]
    exact ⟨fun q => ⟨squaresE0_zero.1 h, fun i hi => (err_zero (by decide)).1 (q i (Nat.zero_le _) (by omega))⟩, fun q i _ hi => (err_zero (by decide)).2 (q.2 i (by omega))⟩
  · simp only [ne_eq, h, not_false_eq_true, if_true, false_iff]
    exact fun q => h (squaresE0_zero.2 q.1)

/-- What is wrong with an energy of a setting. -/
def enBad (g : Nat → List V) (i k : Nat) : Bool :=
  (decide (0 < k) && decide (intAt (inG g i 1) (k - 1) < intAt (inG g i 1) k)) || (decide (0 < i) && decide (intAt (inG g i 1) k < intAt (inG g (i - 1) 1) k))
def setE0 (nq : Nat) (g : Nat → List V) (i : Nat) : Int :=
  firstL [rng (cell g i 0) 1 100, err (decide (0 < i) && decide (cell g i 0 ≤ cell g (i - 1) 0)) 11, err (!decide ((inN g i 1 : Int) = (nq : Int))) 2, rngs (inN g i 1) (inG g i 1) 0 100000000]
def setE (nq : Nat) (g : Nat → List V) (i : Nat) : Int := if setE0 nq g i ≠ 0 then setE0 nq g i else firstI (fun k => err (enBad g i k) 21) 0 (inN g i 1)
theorem setE0_zero {nq : Nat} {g : Nat → List V} {i : Nat} : setE0 nq g i = 0 ↔ (1 ≤ cell g i 0 ∧ cell g i 0 ≤ 100) ∧ (0 < i → cell g (i - 1) 0 < cell g i 0) ∧ inN g i 1 = nq ∧ ∀ k, k < inN g i 1 → 0 ≤ intAt (inG g i 1) k ∧ intAt (inG g i 1) k ≤ 100000000 := by
  unfold setE0
  rw [firstL_zero]
  simp only [List.mem_cons, List.not_mem_nil, or_false, forall_eq_or_imp, forall_eq, err_zero (show (11 : Int) ≠ 0 by decide), err_zero (show (2 : Int) ≠ 0 by decide), Bool.and_eq_false_iff, decide_eq_false_iff_not, Bool.not_eq_false', decide_eq_true_eq, rngs_zero, rng_zero]
  refine ⟨fun ⟨h1, h2, h3, h4⟩ => ⟨h1, fun hi => ?_, by omega, h4⟩, fun ⟨h1, h2, h3, h4⟩ => ⟨h1, ?_, by omega, h4⟩⟩
  · rcases h2 with h2 | h2 <;> omega
  · by_cases hi : 0 < i
    · exact .inr (by have := h2 hi; omega)
    · exact .inl hi
theorem setE_zero {nq : Nat} {g : Nat → List V} {i : Nat} : setE nq g i = 0 ↔ setE0 nq g i = 0 ∧ ∀ k, k < inN g i 1 → enBad g i k = false := by
  unfold setE
  by_cases h : setE0 nq g i = 0
  · simp only [h, ne_eq, not_true_eq_false, if_false, true_and]
    rw [firstI_zero]
    exact ⟨fun q k hk => (err_zero (by decide)).1 (q k (Nat.zero_le _) (by omega)), fun q k _ hk => (err_zero (by decide)).2 (q k (by omega))⟩
  · simp only [ne_eq, h, not_false_eq_true, if_true, false_and]

def dirAt (d0 d1 d2 d3 d4 d5 d6 d7 : Int) (k : Nat) : Int :=
  match k with
  | 0 => d0 | 1 => d1 | 2 => d2 | 3 => d3 | 4 => d4 | 5 => d5 | 6 => d6 | 7 => d7 | _ => 0
theorem dirAt_drop {d0 d1 d2 d3 d4 d5 d6 d7 : Int} : ∀ {k : Nat}, k < 8 → (List.drop k [V.int .i64 d0, V.int .i64 d1, V.int .i64 d2, V.int .i64 d3, V.int .i64 d4, V.int .i64 d5, V.int .i64 d6, V.int .i64 d7]).head? = some (.int .i64 (dirAt d0 d1 d2 d3 d4 d5 d6 d7 k))
  | 0, _ | 1, _ | 2, _ | 3, _ | 4, _ | 5, _ | 6, _ | 7, _ => rfl
  | n + 8, h => by omega

def typeE0 (s : List UInt8) (ns : Nat) (gs : Nat → List V) (d : Nat → Int) (side : Int) (nq : Nat) (gq : Nat → List V) (m : Nat) : Int :=
  firstL [err (!nameB s) 8, sharesE ns gs, rngs 8 (fun i => [.int .i64 (d i)]) 0 2000, rng side 0 1000, squaresE nq gq, err (decide ((m : Int) = 0)) 12, err (decide (6 < (m : Int))) 5]
def typeE (s : List UInt8) (ns : Nat) (gs : Nat → List V) (d : Nat → Int) (side : Int) (nq : Nat) (gq : Nat → List V) (m : Nat) (gt : Nat → List V) : Int :=
  if typeE0 s ns gs d side nq gq m ≠ 0 then typeE0 s ns gs d side nq gq m else firstI (fun i => setE nq gt i) 0 m

/-- A valid type. -/
structure TypeOk (s : List UInt8) (ns : Nat) (gs : Nat → List V) (d : Nat → Int) (side : Int) (nq : Nat) (gq : Nat → List V) (m : Nat) (gt : Nat → List V) : Prop where
  name : nameB s = true
  shares : sharesE ns gs = 0
  dir : ∀ k, k < 8 → 0 ≤ d k ∧ d k ≤ 2000
  sideOk : 0 ≤ side ∧ side ≤ 1000
  squares : squaresE nq gq = 0
  cnt : 0 < m ∧ m ≤ 6
  set : ∀ i, i < m → setE nq gt i = 0
theorem typeE_zero {s : List UInt8} {ns : Nat} {gs : Nat → List V} {d : Nat → Int} {side : Int} {nq : Nat} {gq : Nat → List V} {m : Nat} {gt : Nat → List V} : typeE s ns gs d side nq gq m gt = 0 ↔ TypeOk s ns gs d side nq gq m gt := by
  have h0 : typeE0 s ns gs d side nq gq m = 0 ↔ nameB s = true ∧ sharesE ns gs = 0 ∧ (∀ k, k < 8 → 0 ≤ d k ∧ d k ≤ 2000) ∧ (0 ≤ side ∧ side ≤ 1000) ∧ squaresE nq gq = 0 ∧ 0 < m ∧ m ≤ 6 := by
    unfold typeE0
    rw [firstL_zero]
    simp only [List.mem_cons, List.not_mem_nil, or_false, forall_eq_or_imp, forall_eq, err_zero (show (8 : Int) ≠ 0 by decide), err_zero (show (12 : Int) ≠ 0 by decide), err_zero (show (5 : Int) ≠ 0 by decide), decide_eq_false_iff_not, Bool.not_eq_false', rngs_zero, rng_zero, intAt_fn]
    exact ⟨fun ⟨a, b, c, d, e, f, g⟩ => ⟨a, b, c, d, e, by omega, by omega⟩, fun ⟨a, b, c, d, e, f, g⟩ => ⟨a, b, c, d, e, by omega, by omega⟩⟩
  unfold typeE
  by_cases h : typeE0 s ns gs d side nq gq m = 0
  · simp only [h, ne_eq, not_true_eq_false, if_false]
    rw [firstI_zero]
    obtain ⟨a, b, c, d', e, f, g⟩ := h0.1 h
    exact ⟨fun q => ⟨a, b, c, d', e, ⟨f, g⟩, fun i hi => q i (Nat.zero_le _) (by omega)⟩, fun q i _ hi => q.set i (by omega)⟩
  · simp only [ne_eq, h, not_false_eq_true, if_true, false_iff]
    exact fun q => h (h0.2 ⟨q.name, q.shares, q.dir, q.sideOk, q.squares, q.cnt.1, q.cnt.2⟩)
/-- A type as a value. -/
def tyV (s : List UInt8) (ns : Nat) (gs : Nat → List V) (d0 d1 d2 d3 d4 d5 d6 d7 side : Int) (nq : Nat) (gq : Nat → List V) (m : Nat) (gt : Nat → List V) : List V :=
  [.str s, .sl ns 1 gs, .int .i64 d0, .int .i64 d1, .int .i64 d2, .int .i64 d3, .int .i64 d4, .int .i64 d5, .int .i64 d6, .int .i64 d7, .int .i64 side, .sl nq 1 gq, .sl m 2 gt]
def settingC : Contract := fun _ args =>
  match args with
  | [.agg [.str s, .sl ns zs gs, .int .i64 d0, .int .i64 d1, .int .i64 d2, .int .i64 d3, .int .i64 d4, .int .i64 d5, .int .i64 d6, .int .i64 d7, .int .i64 side, .sl nq zq gq, .sl m zt gt], .int .i64 i] =>
    ⟨zs = 1 ∧ zq = 1 ∧ zt = 2 ∧ IsInts ns gs ∧ IsInts nq gq ∧ IsSet m gt ∧ 0 ≤ i ∧ i < m ∧ (0 < i → inN gt (i.toNat - 1) 1 = nq), .int .i64 (setE nq gt i.toNat), none⟩
  | _ => ⟨False, .top, none⟩
def typeC : Contract := fun _ args =>
  match args with
  | [.agg [.str s, .sl ns zs gs, .int .i64 d0, .int .i64 d1, .int .i64 d2, .int .i64 d3, .int .i64 d4, .int .i64 d5, .int .i64 d6, .int .i64 d7, .int .i64 side, .sl nq zq gq, .sl m zt gt]] =>
    ⟨zs = 1 ∧ zq = 1 ∧ zt = 2 ∧ IsInts ns gs ∧ IsInts nq gq ∧ IsSet m gt ∧ s.length ≤ 9223372036854775807, .int .i64 (typeE s ns gs (dirAt d0 d1 d2 d3 d4 d5 d6 d7) side nq gq m gt), none⟩
  | _ => ⟨False, .top, none⟩
def shortB (s : List UInt8) (ns nq m : Nat) (gt : Nat → List V) : Bool :=
  decide (∀ i, i < m → inN gt i 1 ≤ 9) && (decide ((s.length : Int) ≤ 40) && decide ((ns : Int) ≤ 9) && decide ((nq : Int) ≤ 9) && decide ((m : Int) ≤ 7))
def shortC : Contract := fun _ args =>
  match args with
  | [.agg [.str s, .sl ns zs gs, .int .i64 d0, .int .i64 d1, .int .i64 d2, .int .i64 d3, .int .i64 d4, .int .i64 d5, .int .i64 d6, .int .i64 d7, .int .i64 side, .sl nq zq gq, .sl m zt gt]] =>
    ⟨zs = 1 ∧ zq = 1 ∧ zt = 2 ∧ IsInts ns gs ∧ IsInts nq gq ∧ IsSet m gt, .bool (shortB s ns nq m gt), none⟩
  | _ => ⟨False, .top, none⟩
def shortAirB (n : Nat) (get : Nat → List V) : Bool := decide (∀ i, i < n → inN get i 4 ≤ 9) && decide ((n : Int) ≤ 9)
def shortAirC : Contract := fun _ args =>
  match args with
  | [.sl n sz get] => ⟨sz = 5 ∧ IsAir n get, .bool (shortAirB n get), none⟩
  | _ => ⟨False, .top, none⟩
def stateE (x y z hx hy p : Int) : Int := firstL [pointE 100000 20000 x y z, dirE 200000 hx hy, rng p 1 100]
def stateC : Contract := fun _ args =>
  match args with
  | [.agg [.int .i64 x, .int .i64 y, .int .i64 z, .int .i64 hx, .int .i64 hy, .int .i64 p]] => ⟨True, .int .i64 (stateE x y z hx hy p), none⟩
  | _ => ⟨False, .top, none⟩
attribute [go_sem] settingC typeC shortC shortAirC stateC
theorem cast0 : ((0 : Nat) : Int) = 0 := rfl
attribute [go_sem] sharesC squaresC List.foldl_cons List.foldl_nil cast0 Int.reduceAdd Int.reduceSub Int.reduceMul Int.reduceNeg Int.reduceLT Int.reduceLE Int.reduceEq decide_true decide_false
end Go.Fly
