/- Part of a proof: an evaluator of the model's code by abstract values, and plain laws for it. No conditions. -/
import Derived.Test.YtmlknpghkclffaaGreatDoorAQ
import Derived.Test.YtmlknpghkclffaaGreatDoorAY
import Derived.Test.YtmlknpghkclffaaGreatDoorAU
set_option linter.unusedSimpArgs false
set_option linter.unusedVariables false
section
/- The order of the layers by their speeds: a stable sort and a selection give the same. -/
namespace Go.Fly
open Go
theorem sq_lt {x y : Int} (h0 : 0 ≤ x) (h : x < y) : x * x < y * y := by
  have h1 : x * x ≤ x * y := Int.mul_le_mul_of_nonneg_left (by omega) h0
  have h2 : x * y < y * y := Int.mul_lt_mul_of_pos_right h (by omega)
  omega
theorem sq_le {x y : Int} (h0 : 0 ≤ x) (h : x ≤ y) : x * x ≤ y * y := Int.mul_le_mul h h h0 (by omega)
theorem crossA {a b c d D : Int} (ha : 0 ≤ a) (hb : 0 ≤ b) (hc : 0 ≤ c) (hd : 0 ≤ d) (hD : 0 ≤ D) (h1 : a*a*D ≤ b*b) (h2 : c*c*D ≤ d*d) : a*c*D ≤ b*d := by
  refine Int.not_lt.1 fun h => ?_
  have h3 := sq_lt (Int.mul_nonneg hb hd) h
  have h4 : (a*a*D)*(c*c*D) ≤ (b*b)*(d*d) := Int.mul_le_mul h1 h2 (Int.mul_nonneg (Int.mul_nonneg hc hc) hD) (Int.mul_nonneg hb hb)
  grind
theorem crossB {a b c d D : Int} (ha : 0 ≤ a) (hb : 0 ≤ b) (hc : 0 ≤ c) (hd : 0 ≤ d) (hD : 0 ≤ D) (h1 : b*b ≤ a*a*D) (h2 : d*d ≤ c*c*D) : b*d ≤ a*c*D := by
  refine Int.not_lt.1 fun h => ?_
  have h3 := sq_lt (Int.mul_nonneg (Int.mul_nonneg ha hc) hD) h
  have h4 : (b*b)*(d*d) ≤ (a*a*D)*(c*c*D) := Int.mul_le_mul h1 h2 (Int.mul_nonneg hd hd) (Int.mul_nonneg (Int.mul_nonneg ha ha) hD)
  grind
theorem expA (a c D : Int) : (a+c)*(a+c)*D = a*a*D + 2*(a*c*D) + c*c*D := by grind
theorem expB (a c : Int) : (a+c)*(a+c) = a*a + 2*(a*c) + c*c := by grind
theorem sumA {a b c d D : Int} (ha : 0 ≤ a) (hb : 0 ≤ b) (hc : 0 ≤ c) (hd : 0 ≤ d) (hD : 0 ≤ D) (h1 : a*a*D ≤ b*b) (h2 : c*c*D ≤ d*d) : (a+c)*(a+c)*D ≤ (b+d)*(b+d) := by
  rw [expA, expB]; have := crossA ha hb hc hd hD h1 h2; omega
theorem sumB {a b c d D : Int} (ha : 0 ≤ a) (hb : 0 ≤ b) (hc : 0 ≤ c) (hd : 0 ≤ d) (hD : 0 ≤ D) (h1 : b*b ≤ a*a*D) (h2 : d*d ≤ c*c*D) : (b+d)*(b+d) ≤ (a+c)*(a+c)*D := by
  rw [expA, expB]; have := crossB ha hb hc hd hD h1 h2; omega
theorem sumA' {a b c d D : Int} (ha : 0 ≤ a) (hb : 0 ≤ b) (hc : 0 ≤ c) (hd : 0 ≤ d) (hD : 0 ≤ D) (h1 : a*a*D < b*b) (h2 : c*c*D ≤ d*d) : (a+c)*(a+c)*D < (b+d)*(b+d) := by
  rw [expA, expB]; have := crossA ha hb hc hd hD (Int.le_of_lt h1) h2; omega
theorem sumB' {a b c d D : Int} (ha : 0 ≤ a) (hb : 0 ≤ b) (hc : 0 ≤ c) (hd : 0 ≤ d) (hD : 0 ≤ D) (h1 : b*b < a*a*D) (h2 : d*d ≤ c*c*D) : (b+d)*(b+d) < (a+c)*(a+c)*D := by
  rw [expA, expB]; have := crossB ha hb hc hd hD (Int.le_of_lt h1) h2; omega
/-- s times the root of D, and w, together are at least zero. -/
def Ge (D s w : Int) : Prop := 0 ≤ (if s < 0 then -(s * s * D) else s * s * D) + (if w < 0 then -(w * w) else w * w)
theorem sqN (x : Int) : 0 ≤ x * x := by
  rcases Int.le_total 0 x with h | h
  · exact Int.mul_nonneg h h
  · exact Int.mul_nonneg_of_nonpos_of_nonpos h h
theorem ge_pp {D a b : Int} (hD : 0 < D) (ha : 0 ≤ a) (hb : 0 ≤ b) : Ge D a b := by
  unfold Ge
  rw [if_neg (by omega), if_neg (by omega)]
  have := Int.mul_nonneg (sqN a) (Int.le_of_lt hD); have := sqN b; omega
theorem ge_pn {D a b : Int} (hD : 0 < D) (ha : 0 ≤ a) (hb : 0 ≤ b) : Ge D a (-b) ↔ b * b ≤ a * a * D := by
  unfold Ge
  rw [if_neg (by omega), Int.neg_mul_neg]
  by_cases h : -b < 0
  · rw [if_pos h]; omega
  · obtain rfl : b = 0 := by omega
    rw [if_neg h]
    have := Int.mul_nonneg (sqN a) (Int.le_of_lt hD); omega
theorem ge_np {D a b : Int} (hD : 0 < D) (ha : 0 ≤ a) (hb : 0 ≤ b) : Ge D (-a) b ↔ a * a * D ≤ b * b := by
  unfold Ge
  rw [if_neg (show ¬ b < 0 by omega), Int.neg_mul_neg]
  by_cases h : -a < 0
  · rw [if_pos h]; omega
  · obtain rfl : a = 0 := by omega
    rw [if_neg h]
    have := sqN b; simp
theorem ge_nn {D a b : Int} (hD : 0 < D) (ha : 0 < a) (hb : 0 < b) : ¬ Ge D (-a) (-b) := by
  unfold Ge
  rw [if_pos (by omega), if_pos (by omega), Int.neg_mul_neg, Int.neg_mul_neg]
  have := Int.mul_pos (Int.mul_pos ha ha) hD
  have := Int.mul_pos hb hb
  omega
theorem ge_21 {D a b c d : Int} (hD : 0 < D) (ha : 0 ≤ a) (hb : 0 ≤ b) (hc : 0 ≤ c) (hd : 0 ≤ d) (h : b * b ≤ a * a * D) : Ge D (a + c) (-b + d) := by
  by_cases q : b ≤ d
  · exact ge_pp hD (by omega) (by omega)
  · rw [show -b + d = -(b - d) by omega, ge_pn hD (by omega) (by omega)]
    have h1 := sq_le (x := b - d) (y := b) (by omega) (by omega)
    have h2 := Int.mul_le_mul_of_nonneg_right (sq_le (x := a) (y := a + c) ha (by omega)) (Int.le_of_lt hD)
    omega
theorem ge_31 {D a b c d : Int} (hD : 0 < D) (ha : 0 ≤ a) (hb : 0 ≤ b) (hc : 0 ≤ c) (hd : 0 ≤ d) (h : a * a * D ≤ b * b) : Ge D (-a + c) (b + d) := by
  by_cases q : a ≤ c
  · exact ge_pp hD (by omega) (by omega)
  · rw [show -a + c = -(a - c) by omega, ge_np hD (by omega) (by omega)]
    have h1 := Int.mul_le_mul_of_nonneg_right (sq_le (x := a - c) (y := a) (by omega) (by omega)) (Int.le_of_lt hD)
    have h2 := sq_le (x := b) (y := b + d) hb (by omega)
    omega
theorem ge_23 {D a b c d : Int} (hD : 0 < D) (ha : 0 ≤ a) (hb : 0 ≤ b) (hc : 0 ≤ c) (hd : 0 ≤ d) (h : b * b ≤ a * a * D) (h' : c * c * D ≤ d * d) : Ge D (a + -c) (-b + d) := by
  have hD' := Int.le_of_lt hD
  by_cases q : c ≤ a <;> by_cases r : b ≤ d
  · exact ge_pp hD (by omega) (by omega)
  · rw [show -b + d = -(b - d) by omega, ge_pn hD (by omega) (by omega)]
    refine Int.not_lt.1 fun k => ?_
    have := sumA' (a := a + -c) (b := b - d) (c := c) (d := d) (by omega) (by omega) hc hd hD' k h'
    rw [show a + -c + c = a by omega, show b - d + d = b by omega] at this
    omega
  · rw [show a + -c = -(c - a) by omega, ge_np hD (by omega) (by omega)]
    refine Int.not_lt.1 fun k => ?_
    have := sumB' (a := c - a) (b := -b + d) (c := a) (d := b) (by omega) (by omega) ha hb hD' k h
    rw [show c - a + a = c by omega, show -b + d + b = d by omega] at this
    omega
  · have h1 := Int.mul_le_mul_of_nonneg_right (sq_le (x := a) (y := c) (by omega) (by omega)) hD'
    have h2 := sq_lt (x := d) (y := b) (by omega) (by omega)
    omega
theorem ge_add {D s w s' w' : Int} (hD : 0 < D) (h : Ge D s w) (h' : Ge D s' w') : Ge D (s + s') (w + w') := by
  have hD' := Int.le_of_lt hD
  have neg : ∀ x : Int, x < 0 → ∃ a, 0 < a ∧ x = -a := fun x hx => ⟨-x, by omega, by omega⟩
  by_cases a1 : s < 0 <;> by_cases a2 : w < 0
  · obtain ⟨a, ha, rfl⟩ := neg _ a1
    obtain ⟨b, hb, rfl⟩ := neg _ a2
    exact absurd h (ge_nn hD ha hb)
  · obtain ⟨a, ha, rfl⟩ := neg _ a1
    rw [ge_np hD (by omega) (by omega)] at h
    by_cases b1 : s' < 0 <;> by_cases b2 : w' < 0
    · obtain ⟨c, hc, rfl⟩ := neg _ b1
      obtain ⟨d, hd, rfl⟩ := neg _ b2
      exact absurd h' (ge_nn hD hc hd)
    · obtain ⟨c, hc, rfl⟩ := neg _ b1
      rw [ge_np hD (by omega) (by omega)] at h'
      rw [show -a + -c = -(a + c) by omega, ge_np hD (by omega) (by omega)]
      exact sumA (by omega) (by omega) (by omega) (by omega) hD' h h'
    · obtain ⟨d, hd, rfl⟩ := neg _ b2
      rw [ge_pn hD (by omega) (by omega)] at h'
      rw [Int.add_comm (-a), Int.add_comm w]
      exact ge_23 hD (by omega) (by omega) (by omega) (by omega) h' h
    · exact ge_31 hD (by omega) (by omega) (by omega) (by omega) h
  · obtain ⟨b, hb, rfl⟩ := neg _ a2
    rw [ge_pn hD (by omega) (by omega)] at h
    by_cases b1 : s' < 0 <;> by_cases b2 : w' < 0
    · obtain ⟨c, hc, rfl⟩ := neg _ b1
      obtain ⟨d, hd, rfl⟩ := neg _ b2
      exact absurd h' (ge_nn hD hc hd)
    · obtain ⟨c, hc, rfl⟩ := neg _ b1
      rw [ge_np hD (by omega) (by omega)] at h'
      exact ge_23 hD (by omega) (by omega) (by omega) (by omega) h h'
    · obtain ⟨d, hd, rfl⟩ := neg _ b2
      rw [ge_pn hD (by omega) (by omega)] at h'
      rw [show -b + -d = -(b + d) by omega, ge_pn hD (by omega) (by omega)]
      exact sumB (by omega) (by omega) (by omega) (by omega) hD' h h'
    · exact ge_21 hD (by omega) (by omega) (by omega) (by omega) h
  · by_cases b1 : s' < 0 <;> by_cases b2 : w' < 0
    · obtain ⟨c, hc, rfl⟩ := neg _ b1
      obtain ⟨d, hd, rfl⟩ := neg _ b2
      exact absurd h' (ge_nn hD hc hd)
    · obtain ⟨c, hc, rfl⟩ := neg _ b1
      rw [ge_np hD (by omega) (by omega)] at h'
      rw [Int.add_comm s, Int.add_comm w]
      exact ge_31 hD (by omega) (by omega) (by omega) (by omega) h'
    · obtain ⟨d, hd, rfl⟩ := neg _ b2
      rw [ge_pn hD (by omega) (by omega)] at h'
      rw [Int.add_comm s, Int.add_comm w]
      exact ge_21 hD (by omega) (by omega) (by omega) (by omega) h'
    · exact ge_pp hD (by omega) (by omega)

def spd (get : Nat → List V) (i : Nat) : Int := cell get i 1
def alw (get : Nat → List V) (x y : Int) (i : Nat) : Int := cell get i 2 * x + cell get i 3 * y
theorem cmpV_ge {get : Nat → List V} {i j : Nat} {x y : Int} : 0 ≤ cmpV get i j x y ↔ Ge (x * x + y * y) (spd get i - spd get j) (alw get x y i - alw get x y j) := by
  have e : (cell get i 2 - cell get j 2) * x + (cell get i 3 - cell get j 3) * y = alw get x y i - alw get x y j := by
    unfold alw; rw [Int.sub_mul, Int.sub_mul]; omega
  unfold cmpV fastE Ge leftE rightE spd
  rw [e]
  unfold cmpE
  split <;> rename_i h
  · constructor
    · intro q; omega
    · intro q; omega
  · split <;> (constructor <;> intro q <;> omega)
theorem cmpV_neg {get : Nat → List V} {i j : Nat} {x y : Int} : cmpV get j i x y = -cmpV get i j x y := by
  have e : (cell get i 2 - cell get j 2) * x + (cell get i 3 - cell get j 3) * y = -((cell get j 2 - cell get i 2) * x + (cell get j 3 - cell get i 3) * y) := by
    simp only [Int.sub_mul]; omega
  have e2 : cell get i 1 - cell get j 1 = -(cell get j 1 - cell get i 1) := by omega
  unfold cmpV fastE leftE rightE
  rw [e, e2]
  generalize cell get j 1 - cell get i 1 = s
  generalize (cell get j 2 - cell get i 2) * x + (cell get j 3 - cell get i 3) * y = w
  rw [Int.neg_mul_neg, Int.neg_mul_neg]
  have s0 : s = 0 → s * s * (x * x + y * y) = 0 := fun h => by rw [h]; simp
  have w0 : w = 0 → w * w = 0 := fun h => by rw [h]; rfl
  generalize s * s * (x * x + y * y) = S at *
  generalize w * w = W at *
  unfold cmpE
  (repeat' split) <;> first | rfl | omega
/-- One layer before another: the faster one, or of two alike the lower one. -/
def Bef (get : Nat → List V) (x y : Int) (a b : Int) : Prop := 0 < cmpV get a.toNat b.toNat x y ∨ (cmpV get a.toNat b.toNat x y = 0 ∧ a < b)
theorem cmpV_trans {get : Nat → List V} {x y : Int} (hD : 0 < x * x + y * y) {a b c : Nat} (h : 0 ≤ cmpV get a b x y) (h' : 0 ≤ cmpV get b c x y) : 0 ≤ cmpV get a c x y := by
  rw [cmpV_ge] at *
  have := ge_add hD h h'
  rwa [show spd get a - spd get b + (spd get b - spd get c) = spd get a - spd get c by omega, show alw get x y a - alw get x y b + (alw get x y b - alw get x y c) = alw get x y a - alw get x y c by omega] at this
theorem Bef.trans {get : Nat → List V} {x y : Int} (hD : 0 < x * x + y * y) {a b c : Int} (h : Bef get x y a b) (h' : Bef get x y b c) : Bef get x y a c := by
  have t1 := cmpV_trans (get := get) (a := a.toNat) (b := b.toNat) (c := c.toNat) hD (by rcases h with q | q <;> omega) (by rcases h' with q | q <;> omega)
  have n1 := cmpV_neg (get := get) (i := a.toNat) (j := b.toNat) (x := x) (y := y)
  have n2 := cmpV_neg (get := get) (i := b.toNat) (j := c.toNat) (x := x) (y := y)
  have n3 := cmpV_neg (get := get) (i := a.toNat) (j := c.toNat) (x := x) (y := y)
  by_cases q : cmpV get a.toNat c.toNat x y = 0
  · have t2 := cmpV_trans (get := get) (a := b.toNat) (b := c.toNat) (c := a.toNat) hD (by rcases h' with q | q <;> omega) (by omega)
    have t3 := cmpV_trans (get := get) (a := c.toNat) (b := a.toNat) (c := b.toNat) hD (by omega) (by rcases h with q | q <;> omega)
    exact .inr ⟨q, by rcases h with q | q <;> rcases h' with q | q <;> omega⟩
  · exact .inl (by omega)
theorem Bef.irr {get : Nat → List V} {x y : Int} {a b : Int} (h : Bef get x y a b) (h' : Bef get x y b a) : False := by
  have n1 := cmpV_neg (get := get) (i := a.toNat) (j := b.toNat) (x := x) (y := y)
  rcases h with q | q <;> rcases h' with r | r <;> omega
abbrev ltR (get : Nat → List V) (x y : Int) : Int → Int → Bool := fun a b => decide (cmpV get b.toNat a.toNat x y < 0)
theorem ltR_bef {get : Nat → List V} {x y : Int} {u v : Int} (h : u < v) : (ltR get x y v u = true → Bef get x y v u) ∧ (ltR get x y v u = false → Bef get x y u v) := by
  have n1 := cmpV_neg (get := get) (i := u.toNat) (j := v.toNat) (x := x) (y := y)
  unfold Bef
  constructor
  · intro q
    have := of_decide_eq_true q
    exact .inl (by omega)
  · intro q
    have := of_decide_eq_false q
    by_cases r : cmpV get u.toNat v.toNat x y = 0
    · exact .inr ⟨r, h⟩
    · exact .inl (by omega)
/-- Every index is there. -/
def Onto (n : Nat) (g : Nat → Int) : Prop := ∀ m : Nat, m < n → ∃ i, i < n ∧ g i = m
theorem Onto.swap {n : Nat} {g : Nat → Int} (h : Onto n g) {j : Nat} (hj : j < n) (h0 : 0 < j) : Onto n (swapG g j) := fun m hm => by
  obtain ⟨i, hi, e⟩ := h m hm
  by_cases a : i = j
  · subst a
    exact ⟨i - 1, by omega, by unfold swapG; rw [if_neg (by omega), if_pos rfl]; exact e⟩
  · by_cases b : i = j - 1
    · exact ⟨j, hj, by unfold swapG; rw [if_pos rfl, ← b]; exact e⟩
    · exact ⟨i, hi, by unfold swapG; rw [if_neg a, if_neg b]; exact e⟩
theorem insG_onto {lt : Int → Int → Bool} {n : Nat} : ∀ (j : Nat) (g : Nat → Int), j < n → Onto n g → Onto n (insG lt j g)
  | 0, g, _, h => h
  | j + 1, g, hj, h => by
    unfold insG
    split
    · exact insG_onto j _ (by omega) (h.swap hj (by omega))
    · exact h
theorem insG_idx {lt : Int → Int → Bool} {n : Nat} : ∀ (j : Nat) (g : Nat → Int), j < n → Idx n g → Idx n (insG lt j g)
  | 0, g, _, h => h
  | j + 1, g, hj, h => by
    unfold insG
    split
    · exact insG_idx j _ (by omega) (h.swap hj)
    · exact h
theorem insG_far {lt : Int → Int → Bool} : ∀ (j : Nat) (g : Nat → Int) (b : Nat), j < b → insG lt j g b = g b
  | 0, g, b, _ => rfl
  | j + 1, g, b, hb => by
    unfold insG
    split
    · rw [insG_far j _ b (by omega)]
      unfold swapG
      rw [if_neg (by omega), if_neg (by omega)]
    · rfl
theorem insG_srt {lt : Int → Int → Bool} {B : Int → Int → Prop} (tr : ∀ a b c, B a b → B b c → B a c) {i : Nat} : ∀ (j : Nat) (g : Nat → Int), j ≤ i →
    (∀ a b, a < b → b ≤ i → a ≠ j → b ≠ j → B (g a) (g b)) → (∀ b, j < b → b ≤ i → B (g j) (g b)) →
    (∀ a, a < j → (lt (g j) (g a) = true → B (g j) (g a)) ∧ (lt (g j) (g a) = false → B (g a) (g j))) →
    ∀ a b, a < b → b ≤ i → B (insG lt j g a) (insG lt j g b)
  | 0, g, _, h1, h2, _ => fun a b hab hb => by
    show B (g a) (g b)
    by_cases q : a = 0
    · subst q; exact h2 b hab hb
    · exact h1 a b hab hb q (by omega)
  | j + 1, g, hj, h1, h2, h3 => by
    unfold insG
    split <;> rename_i h
    · have s1 : swapG g (j + 1) j = g (j + 1) := by unfold swapG; rw [if_neg (by omega), if_pos (by omega)]
      have s2 : swapG g (j + 1) (j + 1) = g j := by unfold swapG; rw [if_pos rfl, Nat.add_sub_cancel]
      have s3 : ∀ a, a ≠ j → a ≠ j + 1 → swapG g (j + 1) a = g a := fun a q r => by unfold swapG; rw [if_neg r, if_neg (by omega)]
      have hB := (h3 j (by omega)).1 h
      refine insG_srt tr j _ (by omega) (fun a b hab hb ha hbj => ?_) (fun b hjb hb => ?_) (fun a ha => ?_)
      · by_cases q : a = j + 1
        · subst q
          rw [s2, s3 b hbj (by omega)]
          exact h1 j b (by omega) hb (by omega) (by omega)
        · rw [s3 a ha q]
          by_cases r : b = j + 1
          · subst r
            rw [s2]
            exact h1 a j (by omega) (by omega) q (by omega)
          · rw [s3 b hbj r]
            exact h1 a b hab hb q r
      · rw [s1]
        by_cases r : b = j + 1
        · subst r; rw [s2]; exact hB
        · rw [s3 b (by omega) r]
          exact h2 b (by omega) hb
      · rw [s1, s3 a (by omega) (by omega)]
        exact h3 a (by omega)
    · have hB := (h3 j (by omega)).2 (by simpa using h)
      intro a b hab hb
      by_cases q : a = j + 1
      · subst q; exact h2 b hab hb
      · by_cases r : b = j + 1
        · subst r
          by_cases s : a = j
          · subst s; exact hB
          · exact tr _ _ _ (h1 a j (by omega) (by omega) q (by omega)) hB
        · exact h1 a b hab hb q r
theorem sortG_ok {get : Nat → List V} {x y : Int} (hD : 0 < x * x + y * y) {n : Nat} : ∀ (k i : Nat) (g : Nat → Int), i + k = n → 1 ≤ i → Onto n g → Idx i g → (∀ b, i ≤ b → g b = b) →
    (∀ a b, a < b → b < i → Bef get x y (g a) (g b)) →
    Onto n (sortG (ltR get x y) i k g) ∧ Idx n (sortG (ltR get x y) i k g) ∧ ∀ a b, a < b → b < n → Bef get x y (sortG (ltR get x y) i k g a) (sortG (ltR get x y) i k g b)
  | 0, i, g, hn, h1, ho, hi, hf, hs => by
    obtain rfl : i = n := by omega
    exact ⟨ho, hi, hs⟩
  | k + 1, i, g, hn, h1, ho, hi, hf, hs => by
    unfold sortG
    have hgi : g i = i := hf i (Nat.le_refl i)
    have hi' : Idx (i + 1) g := fun a ha => by
      by_cases q : a = i
      · subst q; rw [hgi]; omega
      · have := hi a (by omega); omega
    refine sortG_ok hD k (i + 1) _ (by omega) (by omega) (insG_onto i g (by omega) ho) (insG_idx i g (by omega) hi') (fun b hb => ?_) (fun a b hab hb => ?_)
    · rw [insG_far i g b (by omega)]; exact hf b (by omega)
    · refine insG_srt (B := Bef get x y) (fun _ _ _ p q => p.trans hD q) i g (Nat.le_refl i) (fun a b hab hb ha hbi => hs a b hab (by omega)) (fun b h1 h2 => by omega) (fun a ha => ?_) a b hab (by omega)
      rw [hgi]
      exact ltR_bef (by have := hi a ha; omega)
theorem rankG_ok {get : Nat → List V} {x y : Int} (hD : 0 < x * x + y * y) {n : Nat} (hn : 1 ≤ n) :
    Onto n (rankG n get x y) ∧ Idx n (rankG n get x y) ∧ ∀ a b, a < b → b < n → Bef get x y (rankG n get x y a) (rankG n get x y b) :=
  sortG_ok hD (n - 1) 1 (fun i => (i : Int)) (by omega) (Nat.le_refl 1) (fun m hm => ⟨m, hm, rfl⟩) (fun i hi => ⟨by show (0 : Int) ≤ (i : Int); omega, by show (i : Int) < (1 : Nat); omega⟩) (fun _ _ => rfl) (fun a b _ hb => by omega)
/-- The layers that the first k of the rank name. -/
def takG (n : Nat) (get : Nat → List V) (x y : Int) (k : Nat) (i : Nat) : Bool := (List.range k).any fun a => decide (rankG n get x y a = i)
theorem takG_true {n : Nat} {get : Nat → List V} {x y : Int} {k i : Nat} : takG n get x y k i = true ↔ ∃ a, a < k ∧ rankG n get x y a = i := by
  unfold takG
  simp
/-- The best one of the first i layers that are not taken yet. -/
def bstG (n : Nat) (get : Nat → List V) (x y : Int) (k : Nat) : Nat → Int
  | 0 => -1
  | i + 1 => if takG n get x y k i = false ∧ (bstG n get x y k i < 0 ∨ 0 < cmpV get i (bstG n get x y k i).toNat x y) then i else bstG n get x y k i
theorem bstG_inv {n : Nat} {get : Nat → List V} {x y : Int} (hD : 0 < x * x + y * y) {k : Nat} : ∀ i : Nat,
    (bstG n get x y k i = -1 ∧ ∀ j : Nat, j < i → takG n get x y k j = true) ∨
    (∃ b : Nat, bstG n get x y k i = b ∧ b < i ∧ takG n get x y k b = false ∧ ∀ j : Nat, j < i → takG n get x y k j = false → j ≠ b → Bef get x y b j)
  | 0 => .inl ⟨rfl, fun j hj => by omega⟩
  | i + 1 => by
    unfold bstG
    rcases bstG_inv (n := n) (get := get) hD (k := k) i with ⟨h1, h2⟩ | ⟨b, h1, h2, h3, h4⟩
    · cases ht : takG n get x y k i
      · rw [if_pos ⟨rfl, .inl (by omega)⟩]
        refine .inr ⟨i, rfl, by omega, ht, fun j hj hj2 hne => ?_⟩
        have := h2 j (by omega)
        rw [this] at hj2; cases hj2
      · rw [if_neg (fun q => by cases q.1)]
        refine .inl ⟨h1, fun j hj => ?_⟩
        by_cases q : j = i
        · subst q; exact ht
        · exact h2 j (by omega)
    · rw [h1, Int.toNat_natCast]
      have n1 := cmpV_neg (get := get) (i := b) (j := i) (x := x) (y := y)
      cases ht : takG n get x y k i
      · by_cases q : 0 < cmpV get i b x y
        · rw [if_pos ⟨rfl, .inr q⟩]
          refine .inr ⟨i, rfl, by omega, ht, fun j hj hj2 hne => ?_⟩
          have hib : Bef get x y (i : Int) (b : Int) := .inl q
          by_cases r : j = b
          · subst r; exact hib
          · exact hib.trans hD (h4 j (by omega) hj2 r)
        · rw [if_neg (fun p => by rcases p.2 with p | p <;> omega)]
          refine .inr ⟨b, rfl, by omega, h3, fun j hj hj2 hne => ?_⟩
          by_cases r : j = i
          · subst r
            show 0 < cmpV get b j x y ∨ (cmpV get b j x y = 0 ∧ (b : Int) < j)
            by_cases s : cmpV get b j x y = 0
            · exact .inr ⟨s, by omega⟩
            · exact .inl (by omega)
          · exact h4 j (by omega) hj2 hne
      · rw [if_neg (fun q => by cases q.1)]
        refine .inr ⟨b, rfl, by omega, h3, fun j hj hj2 hne => ?_⟩
        by_cases q : j = i
        · subst q; rw [ht] at hj2; cases hj2
        · exact h4 j (by omega) hj2 hne
/-- The best one of all that are not taken is the next one of the rank. -/
theorem bstG_end {n : Nat} {get : Nat → List V} {x y : Int} (hD : 0 < x * x + y * y) {k : Nat} (hk : k < n) : bstG n get x y k n = rankG n get x y k := by
  obtain ⟨ho, hi, hs⟩ := rankG_ok (get := get) hD (n := n) (by omega)
  have hb := hi k hk
  obtain ⟨r, hr⟩ := Int.eq_ofNat_of_zero_le hb.1
  have hnt : takG n get x y k r = false := by
    cases e : takG n get x y k r
    · rfl
    · obtain ⟨a, ha, e2⟩ := takG_true.1 e
      have h1 := hs a k ha hk
      rw [e2, hr] at h1
      exact (h1.irr h1).elim
  rcases bstG_inv (n := n) (get := get) hD (k := k) n with ⟨_, h2⟩ | ⟨b, h1, h2, h3, h4⟩
  · have := h2 r (by omega)
    rw [hnt] at this; cases this
  · rw [h1]
    by_cases q : r = b
    · rw [hr, q]
    · have hbr := h4 r (by omega) hnt q
      obtain ⟨a, ha, e2⟩ := ho b h2
      have hak : k ≤ a := Nat.le_of_not_lt fun h => by
        rw [takG_true.2 ⟨a, h, e2⟩] at h3; cases h3
      by_cases e : a = k
      · subst e; rw [e2] at hr; exact absurd (Int.ofNat.inj hr).symm q
      · have := hs k a (by omega) ha
        rw [e2, hr] at this
        exact (this.irr hbr).elim
theorem takG_succ {n : Nat} {get : Nat → List V} {x y : Int} {k : Nat} {r : Nat} (hr : rankG n get x y k = r) (i : Nat) : takG n get x y (k + 1) i = if i = r then true else takG n get x y k i := by
  by_cases q : i = r
  · rw [if_pos q, takG_true]; exact ⟨k, by omega, by rw [hr, q]⟩
  · rw [if_neg q, Bool.eq_iff_iff, takG_true, takG_true]
    constructor
    · rintro ⟨a, ha, e⟩
      by_cases s : a = k
      · subst s; rw [hr] at e; exact absurd (Int.ofNat.inj e).symm q
      · exact ⟨a, by omega, e⟩
    · rintro ⟨a, ha, e⟩
      exact ⟨a, by omega, e⟩
end Go.Fly
end
section
/- The reference's rank, and the law on it. -/
namespace Go.Fly
open Go
def rankRC : Contract := fun _ args =>
  match args with
  | [.sl n sz get, .agg [.int .i64 x, .int .i64 y]] => ⟨sz = 5 ∧ IsAir n get ∧ airE n get = 0 ∧ alongE x y = 0, .sl n 1 (fun i => [.int .i64 (rankG n get x y i)]), none⟩
  | _ => ⟨False, .top, none⟩
def airWindC : Contract := fun _ args =>
  match args with
  | [.sl n sz get, .agg [.int .i64 i, .int .i64 j], .agg [.int .i64 x, .int .i64 y]] => ⟨sz = 5 ∧ IsAir n get, .bool true, none⟩
  | _ => ⟨False, .top, none⟩
attribute [go_sem] rankRC airWindC
theorem along_sq {x y : Int} (h : alongE x y = 0) : 0 < x * x + y * y ∧ ¬ (x = 0 ∧ y = 0) := by
  have h2 : ¬ (x = 0 ∧ y = 0) := fun q => by
    obtain ⟨rfl, rfl⟩ := q
    revert h; decide
  refine ⟨?_, h2⟩
  have a := sqN x
  have b := sqN y
  by_cases hx : x = 0
  · have := sq_zero (x := y) (fun q => h2 ⟨hx, q⟩); omega
  · have := sq_zero hx; omega
theorem bstG_bd {n : Nat} {get : Nat → List V} {x y : Int} (hD : 0 < x * x + y * y) {k : Nat} (i : Nat) : -1 ≤ bstG n get x y k i ∧ bstG n get x y k i < i := by
  rcases bstG_inv (n := n) (get := get) hD (k := k) i with ⟨h, _⟩ | ⟨b, h, h2, _⟩
  · rw [h]; omega
  · rw [h]; omega
end Go.Fly
end
