/- Part of a proof: an evaluator of the model's code by abstract values, and plain laws for it. No conditions. -/
import Derived.Test.YtmlknpghkclffaaGreatDoorAQ
import Derived.Test.YtmlknpghkclffaaGreatDoorAY
import Derived.Test.YtmlknpghkclffaaGreatDoorAU
import Derived.Test.YtmlknpghkclffaaGreatDoorAO
import Derived.Test.YtmlknpghkclffaaGreatDoorAK
import Derived.Test.YtmlknpghkclffaaGreatDoorAW
set_option linter.unusedSimpArgs false
set_option linter.unusedVariables false
section
/- The order of the layers by their speeds: a stable sort and a selection give the same. -/
namespace Go.Fly
open Go
theorem sq_lt {x y : Int} (h0 : 0 ≤ x) (h : x < y) : x * x < y * y := by
  have h1 : x * x ≤ x * y := Int.mul_le_mul_of_nonneg_left (by omega) h0
  have h2 : x * y < y * y := Int.mul_lt_mul_of_pos_right h (by omega)
  omega
theorem sq_le {x y : Int} (h0 : 0 ≤ x) (h : x ≤ y) : x * x ≤ y * y := Int.mul_le_mul h h h0 (by omega)
theorem crossA {a b c d D : Int} (ha : 0 ≤ a) (hb : 0 ≤ b) (hc : 0 ≤ c) (hd : 0 ≤ d) (hD : 0 ≤ D) (h1 : a*a*D ≤ b*b) (h2 : c*c*D ≤ d*d) : a*c*D ≤ b*d := by
  refine Int.not_lt.1 fun h => ?_
  have h3 := sq_lt (Int.mul_nonneg hb hd) h
  have h4 : (a*a*D)*(c*c*D) ≤ (b*b)*(d*d) := Int.mul_le_mul h1 h2 (Int.mul_nonneg (Int.mul_nonneg hc hc) hD) (Int.mul_nonneg hb hb)
  grind
theorem crossB {a b c d D : Int} (ha : 0 ≤ a) (hb : 0 ≤ b) (hc : 0 ≤ c) (hd : 0 ≤ d) (hD : 0 ≤ D) (h1 : b*b ≤ a*a*D) (h2 : d*d ≤ c*c*D) : b*d ≤ a*c*D := by
  refine Int.not_lt.1 fun h => ?_
  have h3 := sq_lt (Int.mul_nonneg (Int.mul_nonneg ha hc) hD) h
  have h4 : (b*b)*(d*d) ≤ (a*a*D)*(c*c*D) := Int.mul_le_mul h1 h2 (Int.mul_nonneg hd hd) (Int.mul_nonneg (Int.mul_nonneg ha ha) hD)
  grind
theorem expA (a c D : Int) : (a+c)*(a+c)*D = a*a*D + 2*(a*c*D) + c*c*D := by grind
theorem expB (a c : Int) : (a+c)*(a+c) = a*a + 2*(a*c) + c*c := by grind
theorem sumA {a b c d D : Int} (ha : 0 ≤ a) (hb : 0 ≤ b) (hc : 0 ≤ c) (hd : 0 ≤ d) (hD : 0 ≤ D) (h1 : a*a*D ≤ b*b) (h2 : c*c*D ≤ d*d) : (a+c)*(a+c)*D ≤ (b+d)*(b+d) := by
  rw [expA, expB]; have := crossA ha hb hc hd hD h1 h2; omega
theorem sumB {a b c d D : Int} (ha : 0 ≤ a) (hb : 0 ≤ b) (hc : 0 ≤ c) (hd : 0 ≤ d) (hD : 0 ≤ D) (h1 : b*b ≤ a*a*D) (h2 : d*d ≤ c*c*D) : (b+d)*(b+d) ≤ (a+c)*(a+c)*D := by
  rw [expA, expB]; have := crossB ha hb hc hd hD h1 h2; omega
theorem sumA' {a b c d D : Int} (ha : 0 ≤ a) (hb : 0 ≤ b) (hc : 0 ≤ c) (hd : 0 ≤ d) (hD : 0 ≤ D) (h1 : a*a*D < b*b) (h2 : c*c*D ≤ d*d) : (a+c)*(a+c)*D < (b+d)*(b+d) := by
  rw [expA, expB]; have := crossA ha hb hc hd hD (Int.le_of_lt h1) h2; omega
theorem sumB' {a b c d D : Int} (ha : 0 ≤ a) (hb : 0 ≤ b) (hc : 0 ≤ c) (hd : 0 ≤ d) (hD : 0 ≤ D) (h1 : b*b < a*a*D) (h2 : d*d ≤ c*c*D) : (b+d)*(b+d) < (a+c)*(a+c)*D := by
  rw [expA, expB]; have := crossB ha hb hc hd hD (Int.le_of_lt h1) h2; omega
/-- s times the root of D, and w, together are at least zero. -/
def Ge (D s w : Int) : Prop := 0 ≤ (if s < 0 then -(s * s * D) else s * s * D) + (if w < 0 then -(w * w) else w * w)
theorem sqN (x : Int) : 0 ≤ x * x := by
  rcases Int.le_total 0 x with h | h
  · exact Int.mul_nonneg h h
  · exact Int.mul_nonneg_of_nonpos_of_nonpos h h
theorem ge_pp {D a b : Int} (hD : 0 < D) (ha : 0 ≤ a) (hb : 0 ≤ b) : Ge D a b := by
  unfold Ge
  rw [if_neg (by omega), if_neg (by omega)]
  have := Int.mul_nonneg (sqN a) (Int.le_of_lt hD); have := sqN b; omega
theorem ge_pn {D a b : Int} (hD : 0 < D) (ha : 0 ≤ a) (hb : 0 ≤ b) : Ge D a (-b) ↔ b * b ≤ a * a * D := by
  unfold Ge
  rw [if_neg (by omega), Int.neg_mul_neg]
  by_cases h : -b < 0
  · rw [if_pos h]; omega
  · obtain rfl : b = 0 := by omega
    rw [if_neg h]
    have := Int.mul_nonneg (sqN a) (Int.le_of_lt hD); omega
theorem ge_np {D a b : Int} (hD : 0 < D) (ha : 0 ≤ a) (hb : 0 ≤ b) : Ge D (-a) b ↔ a * a * D ≤ b * b := by
  unfold Ge
  rw [if_neg (show ¬ b < 0 by omega), Int.neg_mul_neg]
  by_cases h : -a < 0
  · rw [if_pos h]; omega
  · obtain rfl : a = 0 := by omega
    rw [if_neg h]
    have := sqN b; simp
theorem ge_nn {D a b : Int} (hD : 0 < D) (ha : 0 < a) (hb : 0 < b) : ¬ Ge D (-a) (-b) := by
  unfold Ge
  rw [if_pos (by omega), if_pos (by omega), Int.neg_mul_neg, Int.neg_mul_neg]
  have := Int.mul_pos (Int.mul_pos ha ha) hD
  have := Int.mul_pos hb hb
  omega
theorem ge_21 {D a b c d : Int} (hD : 0 < D) (ha : 0 ≤ a) (hb : 0 ≤ b) (hc : 0 ≤ c) (hd : 0 ≤ d) (h : b * b ≤ a * a * D) : Ge D (a + c) (-b + d) := by
  by_cases q : b ≤ d
  · exact ge_pp hD (by omega) (by omega)
  · rw [show -b + d = -(b - d) by omega, ge_pn hD (by omega) (by omega)]
    have h1 := sq_le (x := b - d) (y := b) (by omega) (by omega)
    have h2 := Int.mul_le_mul_of_nonneg_right (sq_le (x := a) (y := a + c) ha (by omega)) (Int.le_of_lt hD)
    omega
theorem ge_31 {D a b c d : Int} (hD : 0 < D) (ha : 0 ≤ a) (hb : 0 ≤ b) (hc : 0 ≤ c) (hd : 0 ≤ d) (h : a * a * D ≤ b * b) : Ge D (-a + c) (b + d) := by
  by_cases q : a ≤ c
  · exact ge_pp hD (by omega) (by omega)
  · rw [show -a + c = -(a - c) by omega, ge_np hD (by omega) (by omega)]
    have h1 := Int.mul_le_mul_of_nonneg_right (sq_le (x := a - c) (y := a) (by omega) (by omega)) (Int.le_of_lt hD)
    have h2 := sq_le (x := b) (y := b + d) hb (by omega)
    omega
theorem ge_23 {D a b c d : Int} (hD : 0 < D) (ha : 0 ≤ a) (hb : 0 ≤ b) (hc : 0 ≤ c) (hd : 0 ≤ d) (h : b * b ≤ a * a * D) (h' : c * c * D ≤ d * d) : Ge D (a + -c) (-b + d) := by
  have hD' := Int.le_of_lt hD
  by_cases q : c ≤ a <;> by_cases r : b ≤ d
  · exact ge_pp hD (by omega) (by omega)
  · rw [show -b + d = -(b - d) by omega, ge_pn hD (by omega) (by omega)]
    refine Int.not_lt.1 fun k => ?_
    have := sumA' (a := a + -c) (b := b - d) (c := c) (d := d) (by omega) (by omega) hc hd hD' k h'
    rw [show a + -c + c = a by omega, show b - d + d = b by omega] at this
    omega
  · rw [show a + -c = -(c - a) by omega, ge_np hD (by omega) (by omega)]
    refine Int.not_lt.1 fun k => ?_
    have := sumB' (a := c - a) (b := -b + d) (c := a) (d := b) (by omega) (by omega) ha hb hD' k h
    rw [show c - a + a = c by omega, show -b + d + b = d by omega] at this
    omega
  · have h1 := Int.mul_le_mul_of_nonneg_right (sq_le (x := a) (y := c) (by omega) (by omega)) hD'
    have h2 := sq_lt (x := d) (y := b) (by omega) (by omega)
    omega
theorem ge_add {D s w s' w' : Int} (hD : 0 < D) (h : Ge D s w) (h' : Ge D s' w') : Ge D (s + s') (w + w') := by
  have hD' := Int.le_of_lt hD
  have neg : ∀ x : Int, x < 0 → ∃ a, 0 < a ∧ x = -a := fun x hx => ⟨-x, by omega, by omega⟩
  by_cases a1 : s < 0 <;> by_cases a2 : w < 0
  · obtain ⟨a, ha, rfl⟩ := neg _ a1
    obtain ⟨b, hb, rfl⟩ := neg _ a2
    exact absurd h (ge_nn hD ha hb)
  · obtain ⟨a, ha, rfl⟩ := neg _ a1
    rw [ge_np hD (by omega) (by omega)] at h
    by_cases b1 : s' < 0 <;> by_cases b2 : w' < 0
    · obtain ⟨c, hc, rfl⟩ := neg _ b1
      obtain ⟨d, hd, rfl⟩ := neg _ b2
      exact absurd h' (ge_nn hD hc hd)
    · obtain ⟨c, hc, rfl⟩ := neg _ b1
      rw [ge_np hD (by omega) (by omega)] at h'
      rw [show -a + -c = -(a + c) by omega, ge_np hD (by omega) (by omega)]
      exact sumA (by omega) (by omega) (by omega) (by omega) hD' h h'
    · obtain ⟨d, hd, rfl⟩ := neg _ b2
      rw [ge_pn hD (by omega) (by omega)] at h'
      rw [Int.add_comm (-a), Int.add_comm w]
      exact ge_23 hD (by omega) (by omega) (by omega) (by omega) h' h
    · exact ge_31 hD (by omega) (by omega) (by omega) (by omega) h
  · obtain ⟨b, hb, rfl⟩ := neg _ a2
    rw [ge_pn hD (by omega) (by omega)] at h
    by_cases b1 : s' < 0 <;> by_cases b2 : w' < 0
    · obtain ⟨c, hc, rfl⟩ := neg _ b1
      obtain ⟨d, hd, rfl⟩ := neg _ b2
      exact absurd h' (ge_nn hD hc hd)
    · obtain ⟨c, hc, rfl⟩ := neg _ b1
      rw [ge_np hD (by omega) (by omega)] at h'
      exact ge_23 hD (by omega) (by omega) (by omega) (by omega) h h'
    · obtain ⟨d, hd, rfl⟩ := neg _ b2
      rw [ge_pn hD (by omega) (by omega)] at h'
      rw [show -b + -d = -(b + d) by omega, ge_pn hD (by omega) (by omega)]
      exact sumB (by omega) (by omega) (by omega) (by omega) hD' h h'
    · exact ge_21 hD (by omega) (by omega) (by omega) (by omega) h
  · by_cases b1 : s' < 0 <;> by_cases b2 : w' < 0
    · obtain ⟨c, hc, rfl⟩ := neg _ b1
      obtain ⟨d, hd, rfl⟩ := neg _ b2
      exact absurd h' (ge_nn hD hc hd)
    · obtain ⟨c, hc, rfl⟩ := neg _ b1
      rw [ge_np hD (by omega) (by omega)] at h'
      rw [Int.add_comm s, Int.add_comm w]
      exact ge_31 hD (by omega) (by omega) (by omega) (by omega) h'
    · obtain ⟨d, hd, rfl⟩ := neg _ b2
      rw [ge_pn hD (by omega) (by omega)] at h'
      rw [Int.add_comm s, Int.add_comm w]
      exact ge_21 hD (by omega) (by omega) (by omega) (by omega) h'
    · exact ge_pp hD (by omega) (by omega)

def spd (get : Nat → List V) (i : Nat) : Int := cell get i 1
def alw (get : Nat → List V) (x y : Int) (i : Nat) : Int := cell get i 2 * x + cell get i 3 * y
theorem cmpV_ge {get : Nat → List V} {i j : Nat} {x y : Int} : 0 ≤ cmpV get i j x y ↔ Ge (x * x + y * y) (spd get i - spd get j) (alw get x y i - alw get x y j) := by
  have e : (cell get i 2 - cell get j 2) * x + (cell get i 3 - cell get j 3) * y = alw get x y i - alw get x y j := by
    unfold alw; rw [Int.sub_mul, Int.sub_mul]; omega
  unfold cmpV fastE Ge leftE rightE spd
  rw [e]
  unfold cmpE
  split <;> rename_i h
  · constructor
    · intro q; omega
    · intro q; omega
  · split <;> (constructor <;> intro q <;> omega)
theorem cmpV_neg {get : Nat → List V} {i j : Nat} {x y : Int} : cmpV get j i x y = -cmpV get i j x y := by
  have e : (cell get i 2 - cell get j 2) * x + (cell get i 3 - cell get j 3) * y = -((cell get j 2 - cell get i 2) * x + (cell get j 3 - cell get i 3) * y) := by
    simp only [Int.sub_mul]; omega
  have e2 : cell get i 1 - cell get j 1 = -(cell get j 1 - cell get i 1) := by omega
  unfold cmpV fastE leftE rightE
  rw [e, e2]
  generalize cell get j 1 - cell get i 1 = s
  generalize (cell get j 2 - cell get i 2) * x + (cell get j 3 - cell get i 3) * y = w
  rw [Int.neg_mul_neg, Int.neg_mul_neg]
  have s0 : s = 0 → s * s * (x * x + y * y) = 0 := fun h => by rw [h]; simp
  have w0 : w = 0 → w * w = 0 := fun h => by rw [h]; rfl
  generalize s * s * (x * x + y * y) = S at *
  generalize w * w = W at *
  unfold cmpE
  (repeat' split) <;> first | rfl | omega
/-- One layer before another: the faster one, or of two alike the lower one. -/
def Bef (get : Nat → List V) (x y : Int) (a b : Int) : Prop := 0 < cmpV get a.toNat b.toNat x y ∨ (cmpV get a.toNat b.toNat x y = 0 ∧ a < b)
theorem cmpV_trans {get : Nat → List V} {x y : Int} (hD : 0 < x * x + y * y) {a b c : Nat} (h : 0 ≤ cmpV get a b x y) (h' : 0 ≤ cmpV get b c x y) : 0 ≤ cmpV get a c x y := by
  rw [cmpV_ge] at *
  have := ge_add hD h h'
  rwa [show spd get a - spd get b + (spd get b - spd get c) = spd get a - spd get c by omega, show alw get x y a - alw get x y b + (alw get x y b - alw get x y c) = alw get x y a - alw get x y c by omega] at this
theorem Bef.trans {get : Nat → List V} {x y : Int} (hD : 0 < x * x + y * y) {a b c : Int} (h : Bef get x y a b) (h' : Bef get x y b c) : Bef get x y a c := by
  have t1 := cmpV_trans (get := get) (a := a.toNat) (b := b.toNat) (c := c.toNat) hD (by rcases h with q | q <;> omega) (by rcases h' with q | q <;> omega)
  have n1 := cmpV_neg (get := get) (i := a.toNat) (j := b.toNat) (x := x) (y := y)
  have n2 := cmpV_neg (get := get) (i := b.toNat) (j := c.toNat) (x := x) (y := y)
  have n3 := cmpV_neg (get := get) (i := a.toNat) (j := c.toNat) (x := x) (y := y)
  by_cases q : cmpV get a.toNat c.toNat x y = 0
  · have t2 := cmpV_trans (get := get) (a := b.toNat) (b := c.toNat) (c := a.toNat) hD (by rcases h' with q | q <;> omega) (by omega)
    have t3 := cmpV_trans (get := get) (a := c.toNat) (b := a.toNat) (c := b.toNat) hD (by omega) (by rcases h with q | q <;> omega)
    exact .inr ⟨q, by rcases h with q | q <;> rcases h' with q | q <;> omega⟩
  · exact .inl (by omega)
/-- Every index is there. -/
def Onto (n : Nat) (g : Nat → Int) : Prop := ∀ m : Nat, m < n → ∃ i, i < n ∧ g i = m
theorem Onto.swap {n : Nat} {g : Nat → Int} (h : Onto n g) {j : Nat} (hj : j < n) (h0 : 0 < j) : Onto n (swapG g j) := fun m hm => by
  obtain ⟨i, hi, e⟩ := h m hm
  by_cases a : i = j
  · subst a
    exact ⟨i - 1, by omega, by unfold swapG; rw [if_neg (by omega), if_pos rfl]; exact e⟩
  · by_cases b : i = j - 1
    · exact ⟨j, hj, by unfold swapG; rw [if_pos rfl, ← b]; exact e⟩
    · exact ⟨i, hi, by unfold swapG; rw [if_neg a, if_neg b]; exact e⟩
end Go.Fly
end
section
/- The reference's rank, and the law on it. -/
namespace Go.Fly
open Go
end Go.Fly
end
section
/- The law on a path and its way back: its plain part. -/
namespace Go.Fly
open Go
theorem sq_le_inv {a b : Int} (hb : 0 ≤ b) (h : a * a ≤ b * b) : a ≤ b := Int.not_lt.1 fun q => by
  have := sq_lt hb q
  omega
theorem rootUp_sq {s t : Int} (hs : 0 ≤ s) (ht : 0 < t) : s ≤ rootUp s t * rootUp s t * t := by
  have h := rootE_up hs ht
  unfold rootUp
  split
  · exact Int.le_of_lt h
  · rename_i q; exact Int.not_lt.1 q
theorem rootUp_bd (s t : Int) : 0 ≤ rootE s t ∧ rootE s t ≤ rootUp s t ∧ rootUp s t ≤ rootE s t + 1 := by
  have := rootE_nonneg s t
  unfold rootUp
  split <;> omega
theorem rootUp_ge {s d : Int} (hs : 0 ≤ s) (h : d * d ≤ s) : d ≤ rootUp s 1 ∧ -d ≤ rootUp s 1 := by
  have h1 := rootUp_sq hs (t := 1) (by decide)
  have h2 := rootUp_bd s 1
  rw [Int.mul_one] at h1
  exact ⟨sq_le_inv (by omega) (by omega), sq_le_inv (by omega) (by rw [Int.neg_mul_neg]; omega)⟩
/-- A height between two others. -/
def clampE (lo hi x : Int) : Int := max lo (min hi x)
theorem over_clamp {bot top lo hi : Int} (h : bot ≤ top) (h2 : lo ≤ hi) : overE bot top lo hi = clampE lo hi top - clampE lo hi bot := by
  unfold overE clampE; omega
theorem sum_over {n : Nat} {get : Nat → List V} (hok : AirOk n get) {lo hi : Int} (h0 : 0 ≤ lo) (h : lo ≤ hi) : ∀ {k : Nat}, k < n → sumI (fun i => overE (botE get i) (topE n get i) lo hi) k = clampE lo hi (botE get k) - clampE lo hi 0
  | 0, _ => by simp only [sumI]; rw [show botE get 0 = 0 from rfl]; omega
  | k + 1, hk => by
    have ih := sum_over hok h0 h (k := k) (by omega)
    simp only [sumI]
    rw [ih, over_clamp (Int.le_of_lt (top_bd hok (show k < n by omega)).1) h, top_next hk]
    omega
theorem sum_overN {n : Nat} {get : Nat → List V} (hok : AirOk n get) {lo hi : Int} (h0 : 0 ≤ lo) (h : lo ≤ hi) (h2 : hi ≤ 20000) : sumI (fun i => overE (botE get i) (topE n get i) lo hi) n = hi - lo := by
  obtain ⟨k, rfl⟩ : ∃ k, n = k + 1 := ⟨n - 1, by have := hok.cnt; omega⟩
  have ih := sum_over hok h0 h (k := k) (by omega)
  simp only [sumI]
  rw [ih, over_clamp (Int.le_of_lt (top_bd hok (show k < k + 1 by omega)).1) h]
  have ht : topE (k + 1) get k = 1099511627776 := by unfold topE; rw [if_pos (by omega)]
  rw [ht]
  unfold clampE
  omega
theorem sum_one {I : Nat} : ∀ {n : Nat}, sumI (fun i : Nat => if (i : Int) = (I : Int) then (1 : Int) else 0) n = if I < n then 1 else 0
  | 0 => by simp [sumI]
  | n + 1 => by
    simp only [sumI]
    rw [sum_one (n := n)]
    by_cases a : I < n
    · rw [if_pos a, if_neg (show ¬ (n : Int) = (I : Int) by omega), if_pos (show I < n + 1 by omega)]; rfl
    · rw [if_neg a]
      by_cases b : I = n
      · rw [if_pos (show (n : Int) = (I : Int) by omega), if_pos (show I < n + 1 by omega)]; rfl
      · rw [if_neg (show ¬ (n : Int) = (I : Int) by omega), if_neg (show ¬ I < n + 1 by omega)]; rfl
theorem sum_part {n : Nat} {get : Nat → List V} (hok : AirOk n get) {z0 z1 flat : Int} (h0 : 0 ≤ z0) (h : z0 ≤ z1) (h2 : z1 ≤ 20000) (hf : flat ≤ 20000) : sumI (partE n get z0 z1 flat) n = byE z0 z1 := by
  unfold byE
  by_cases e : z1 - z0 = 0
  · rw [if_pos e]
    obtain ⟨I, hI, eI⟩ := atE_ok hok hf
    have hfun : partE n get z0 z1 flat = fun i : Nat => if (i : Int) = (I : Int) then (1 : Int) else 0 := funext fun i => by unfold partE; rw [if_pos e, eI]
    rw [hfun, sum_one, if_pos hI]
  · rw [if_neg e]
    have hfun : partE n get z0 z1 flat = fun i => overE (botE get i) (topE n get i) z0 z1 := funext fun i => by unfold partE; rw [if_neg e]
    rw [hfun, sum_overN hok h0 h h2]
theorem sumI_scale {f g : Nat → Int} {c d : Int} : ∀ {n : Nat}, (∀ i, i < n → c * f i ≤ d * g i) → c * sumI f n ≤ d * sumI g n
  | 0, _ => by simp [sumI]
  | n + 1, h => by
    have a := sumI_scale (n := n) fun i hi => h i (by omega)
    have b := h n (by omega)
    simp only [sumI, Int.mul_add]
    omega
theorem step_scale {sq p b : Int} (hs : 0 ≤ sq) (hp : 0 ≤ p) (hb : 0 < b) :
    (100 * b) * rootE (sq * p * p) (b * b * 100 * 100) ≤ rootUp sq 1 * p ∧ rootE sq 1 * p ≤ (100 * b) * rootUp (sq * p * p) (b * b * 100 * 100) := by
  have hbb : 0 < b * b := Int.mul_pos hb hb
  have hT : 0 < b * b * 100 * 100 := by omega
  have hpp : 0 ≤ p * p := Int.mul_nonneg hp hp
  have hS : 0 ≤ sq * p * p := by rw [Int.mul_assoc]; exact Int.mul_nonneg hs hpp
  have u := rootUp_bd sq 1
  have u2 := rootUp_bd (sq * p * p) (b * b * 100 * 100)
  have r1 := rootE_sq hS hT
  have r2 := rootUp_sq hS hT
  have r3 := rootUp_sq hs (t := 1) (by decide)
  have r4 := rootE_sq hs (t := 1) (by decide)
  rw [Int.mul_one] at r3 r4
  generalize rootE (sq * p * p) (b * b * 100 * 100) = x at *
  generalize rootUp (sq * p * p) (b * b * 100 * 100) = y at *
  generalize rootUp sq 1 = R at *
  generalize rootE sq 1 = r at *
  constructor
  · refine sq_le_inv (Int.mul_nonneg (by omega) hp) ?_
    have e1 : (100 * b * x) * (100 * b * x) = x * x * (b * b * 100 * 100) := by grind
    have e2 : (R * p) * (R * p) = R * R * (p * p) := by grind
    have h3 := Int.mul_le_mul_of_nonneg_right r3 hpp
    rw [e1, e2]
    rw [Int.mul_assoc] at r1
    rw [Int.mul_assoc sq] at r1
    rw [Int.mul_assoc]
    omega
  · refine sq_le_inv (Int.mul_nonneg (by omega) (by omega)) ?_
    have e1 : (100 * b * y) * (100 * b * y) = y * y * (b * b * 100 * 100) := by grind
    have e2 : (r * p) * (r * p) = r * r * (p * p) := by grind
    have h3 := Int.mul_le_mul_of_nonneg_right r4 hpp
    rw [e1, e2]
    rw [Int.mul_assoc sq] at r2
    omega
/-- All steps together are the length, but for what is rounded. -/
theorem steps_sum {n : Nat} {get : Nat → List V} (hok : AirOk n get) {sq z0 z1 flat : Int} (hs : 0 ≤ sq) (h0 : 0 ≤ z0) (h : z0 ≤ z1) (h2 : z1 ≤ 20000) (hf : flat ≤ 20000) :
    sumI (stepLo n get sq z0 z1 flat) n * 100 ≤ rootUp sq 1 ∧ rootE sq 1 ≤ sumI (stepHi n get sq z0 z1 flat) n * 100 := by
  have hby : 0 < byE z0 z1 := by unfold byE; split <;> omega
  have hsp := sum_part hok h0 h h2 hf
  have h1 := sumI_scale (f := stepLo n get sq z0 z1 flat) (g := partE n get z0 z1 flat) (c := 100 * byE z0 z1) (d := rootUp sq 1) (n := n) fun i _ => by
    have := (part_bd (n := n) (get := get) (flat := flat) (i := i) h).1
    exact (step_scale hs this hby).1
  have h3 := sumI_scale (f := partE n get z0 z1 flat) (g := stepHi n get sq z0 z1 flat) (c := rootE sq 1) (d := 100 * byE z0 z1) (n := n) fun i _ => by
    have := (part_bd (n := n) (get := get) (flat := flat) (i := i) h).1
    exact (step_scale hs this hby).2
  rw [hsp] at h1 h3
  constructor
  · refine Int.le_of_mul_le_mul_left (a := byE z0 z1) ?_ hby
    have e1 : byE z0 z1 * (sumI (stepLo n get sq z0 z1 flat) n * 100) = 100 * byE z0 z1 * sumI (stepLo n get sq z0 z1 flat) n := by grind
    rw [e1, Int.mul_comm (byE z0 z1)]
    exact h1
  · refine Int.le_of_mul_le_mul_left (a := byE z0 z1) ?_ hby
    have e1 : byE z0 z1 * (sumI (stepHi n get sq z0 z1 flat) n * 100) = 100 * byE z0 z1 * sumI (stepHi n get sq z0 z1 flat) n := by grind
    rw [e1, Int.mul_comm (byE z0 z1)]
    exact h3
end Go.Fly
end
section
/- The law on a path and its way back: the same both ways; bounds. -/
namespace Go.Fly
open Go
theorem partG_sym {n : Nat} {get : Nat → List V} {c f : Int} {i : Nat} : partG n get (min f c) (max f c) 0 0 f i = partG n get (min c f) (max c f) 0 0 c i := by
  rw [show min f c = min c f by omega, show max f c = max c f by omega]
  unfold partG
  by_cases h : allG (min c f) (max c f) 0 0 = 0
  · have : f = c := by unfold allG at h; omega
    rw [this]
  · rw [if_neg h, if_neg h]
theorem byG_sym {c f : Int} : byG (min f c) (max f c) 0 0 = byG (min c f) (max c f) 0 0 := by
  rw [show min f c = min c f by omega, show max f c = max c f by omega]
theorem stLo_sym {n : Nat} {get : Nat → List V} {sq c f : Int} {i : Nat} : stLo n get sq (min f c) (max f c) 0 0 f i = stLo n get sq (min c f) (max c f) 0 0 c i := by
  unfold stLo; rw [partG_sym, byG_sym]
theorem stHi_sym {n : Nat} {get : Nat → List V} {sq c f : Int} {i : Nat} : stHi n get sq (min f c) (max f c) 0 0 f i = stHi n get sq (min c f) (max c f) 0 0 c i := by
  unfold stHi; rw [partG_sym, byG_sym]
theorem qLo_sym {n : Nat} {get : Nat → List V} {sq c f : Int} {k : Nat} : qLo n get sq (min f c) (max f c) 0 0 f k = qLo n get sq (min c f) (max c f) 0 0 c k := by
  unfold qLo
  rw [show (fun i => stHi n get sq (min f c) (max f c) 0 0 f i) = fun i => stHi n get sq (min c f) (max c f) 0 0 c i from funext fun i => stHi_sym]
theorem qHi_sym {n : Nat} {get : Nat → List V} {sq c f : Int} {k : Nat} : qHi n get sq (min f c) (max f c) 0 0 f k = qHi n get sq (min c f) (max c f) 0 0 c k := by
  unfold qHi
  rw [show (fun i => stLo n get sq (min f c) (max f c) 0 0 f i) = fun i => stLo n get sq (min c f) (max c f) 0 0 c i from funext fun i => stLo_sym]
theorem ech_sym (a b c d e f : Int) : ech d e f a b c = ech a b c d e f := by
  have h : ∀ u v : Int, (u - v) * (u - v) = (v - u) * (v - u) := fun u v => by
    rw [show u - v = -(v - u) by omega, Int.neg_mul_neg]
  unfold ech
  rw [h a d, h b e, Int.add_comm c f]
theorem partG_ech {n : Nat} {get : Nat → List V} {c f : Int} {i : Nat} : partG n get 0 f 0 c 0 i = partG n get 0 c 0 f 0 i := by
  have e : allG 0 f 0 c = allG 0 c 0 f := by unfold allG; omega
  unfold partG
  rw [e, Int.add_comm (overE (botE get i) (topE n get i) 0 f)]
theorem byG_ech {c f : Int} : byG 0 f 0 c = byG 0 c 0 f := by
  have e : allG 0 f 0 c = allG 0 c 0 f := by unfold allG; omega
  unfold byG; rw [e]
theorem eLo_sym {n : Nat} {get : Nat → List V} {sq c f : Int} {k : Nat} : qLo n get sq 0 f 0 c 0 k = qLo n get sq 0 c 0 f 0 k := by
  unfold qLo
  rw [show (fun i => stHi n get sq 0 f 0 c 0 i) = fun i => stHi n get sq 0 c 0 f 0 i from funext fun i => by unfold stHi; rw [partG_ech, byG_ech]]
theorem eHi_sym {n : Nat} {get : Nat → List V} {sq c f : Int} {k : Nat} : qHi n get sq 0 f 0 c 0 k = qHi n get sq 0 c 0 f 0 k := by
  unfold qHi
  rw [show (fun i => stLo n get sq 0 f 0 c 0 i) = fun i => stLo n get sq 0 c 0 f 0 i from funext fun i => by unfold stLo; rw [partG_ech, byG_ech]]
theorem fast_val (sp wx wy ax ay : Int) : fastE sp wx wy ax ay = -1 ∨ fastE sp wx wy ax ay = 0 ∨ fastE sp wx wy ax ay = 1 := by
  unfold fastE cmpE
  split
  · exact .inl rfl
  · split
    · exact .inr (.inr rfl)
    · exact .inr (.inl rfl)
theorem bent_val {n : Nat} {get : Nat → List V} {a b c d e f : Int} (h : bentE n get a b c d e f < 0) : bentE n get a b c d e f = -1 := by
  unfold bentE at h ⊢
  split at h
  · omega
  · rename_i q
    rw [if_neg q]
    rcases fast_val (cell get (atE n get (max c f)).toNat 1 - cell get (atE n get (min c f)).toNat 1) (cell get (atE n get (max c f)).toNat 2 - cell get (atE n get (min c f)).toNat 2) (cell get (atE n get (max c f)).toNat 3 - cell get (atE n get (min c f)).toNat 3) (d - a) (e - b) with r | r | r
    · exact r
    · omega
    · omega
theorem shad_rev {n : Nat} {get : Nat → List V} (a b c d e f : Int) : shadE n (revG get) d e f a b c = shadE n get a b c d e f := by
  have h : ∀ u v : Int, (u - v) * (u - v) = (v - u) * (v - u) := fun u v => by
    rw [show u - v = -(v - u) by omega, Int.neg_mul_neg]
  unfold shadE
  rw [bent_rev, h a d, h b e, Int.add_comm f c]
theorem shad_bent {n : Nat} {get : Nat → List V} {a b c d e f : Int} (h : shadE n get a b c d e f = true) : bentE n get a b c d e f = -1 := by
  unfold shadE at h
  simp only [Bool.and_eq_true, decide_eq_true_eq] at h
  exact bent_val h.1
theorem rev_rev {n : Nat} {get : Nat → List V} (h : IsAir n get) {i : Nat} (hi : i < n) : revG (revG get) i = get i := by
  have e : revG (revG get) i = [.int .i64 (cell get i 0), .int .i64 (cell get i 1), .int .i64 (- -cell get i 2), .int .i64 (- -cell get i 3), .sl (inN get i 4) 2 (inG get i 4)] := rfl
  rw [e, Int.neg_neg, Int.neg_neg]
  exact (h.2 i hi).1.symm
/-- The steps of a path: together they are its length. -/
theorem there_sum {n : Nat} {get : Nat → List V} (hok : AirOk n get) {a b c d e f : Int} (hp : PathOk a b c d e f) :
    sumI (stLo n get (sqE a b c d e f) (min c f) (max c f) 0 0 c) n * 100 ≤ rootUp (sqE a b c d e f) 1 ∧ rootE (sqE a b c d e f) 1 ≤ sumI (stHi n get (sqE a b c d e f) (min c f) (max c f) 0 0 c) n * 100 := by
  have hb : ∀ i, i < n → 0 ≤ botE get i ∧ 0 ≤ topE n get i := fun i hi => by
    have h1 := bot_bd hok (show i ≤ n by omega)
    have h2 := top_bd hok hi
    omega
  rw [sumI_congr (f := stLo n get (sqE a b c d e f) (min c f) (max c f) 0 0 c) (g := stepLo n get (sqE a b c d e f) (min c f) (max c f) c) fun i hi => stLo_one (hb i hi).1 (hb i hi).2,
    sumI_congr (f := stHi n get (sqE a b c d e f) (min c f) (max c f) 0 0 c) (g := stepHi n get (sqE a b c d e f) (min c f) (max c f) c) fun i hi => stHi_one (hb i hi).1 (hb i hi).2]
  have hsq := sqE_bd hp
  obtain ⟨⟨p1, p2, p3⟩, ⟨p4, p5, p6⟩, -⟩ := hp
  exact steps_sum hok hsq.1 (by omega) (by omega) (by omega) (by omega)
theorem there_far {a b c d e f : Int} (hp : PathOk a b c d e f) : max (d - a) (-(d - a)) ≤ rootUp (sqE a b c d e f) 1 ∧ max (e - b) (-(e - b)) ≤ rootUp (sqE a b c d e f) 1 ∧ max (f - c) (-(f - c)) ≤ rootUp (sqE a b c d e f) 1 := by
  have hsq := (sqE_bd hp).1
  have h1 := sqN (d - a)
  have h2 := sqN (e - b)
  have h3 := sqN (f - c)
  have r1 := rootUp_ge hsq (d := d - a) (by unfold sqE; omega)
  have r2 := rootUp_ge hsq (d := e - b) (by unfold sqE; omega)
  have r3 := rootUp_ge hsq (d := f - c) (by unfold sqE; omega)
  omega
theorem there_len {a b c d e f : Int} (hp : PathOk a b c d e f) : 0 ≤ rootE (sqE a b c d e f) 1 ∧ rootUp (sqE a b c d e f) 1 ≤ 30001 := by
  have hsq := sqE_bd hp
  have h1 := rootUp_bd (sqE a b c d e f) 1
  have h2 := rootE_sq hsq.1 (t := 1) (by decide)
  have h3 : rootE (sqE a b c d e f) 1 ≤ 30000 := sq_le_inv (by decide) (by omega)
  omega
theorem sum_bd {n : Nat} {get : Nat → List V} {sq z0 z1 y0 y1 flat : Int} (hsq : 0 ≤ sq ∧ sq ≤ 1200000000) (hz : z0 ≤ z1) (hy : y0 ≤ y1) : ∀ m : Nat,
    0 ≤ sumI (stLo n get sq z0 z1 y0 y1 flat) m ∧ sumI (stLo n get sq z0 z1 y0 y1 flat) m ≤ 347 * m ∧ 0 ≤ sumI (stHi n get sq z0 z1 y0 y1 flat) m ∧ sumI (stHi n get sq z0 z1 y0 y1 flat) m ≤ 347 * m
  | 0 => by simp [sumI]
  | m + 1 => by
    have a := sum_bd (n := n) (get := get) (flat := flat) hsq hz hy m
    have b := stG_bd (n := n) (get := get) (flat := flat) hsq hz hy m
    simp only [sumI]
    omega
theorem st_one {n : Nat} {get : Nat → List V} {sq z0 z1 y0 y1 flat : Int} {i : Nat} : stHi n get sq z0 z1 y0 y1 flat i ≤ stLo n get sq z0 z1 y0 y1 flat i + 1 := (rootUp_bd _ _).2.2
theorem sameG_self {n : Nat} {a : Nat → List V} : sameG n a n a = true := sameG_true fun _ _ => ⟨rfl, rfl⟩
def airThereC : Contract := fun _ args =>
  match args with
  | [.sl n sz get, .agg [.int .i64 a, .int .i64 b, .int .i64 c, .int .i64 d, .int .i64 e, .int .i64 f]] => ⟨sz = 5 ∧ IsAir n get, .bool true, none⟩
  | _ => ⟨False, .top, none⟩
attribute [go_sem] airThereC
end Go.Fly
end
