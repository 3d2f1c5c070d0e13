/- Part of a proof: an evaluator of the model's code by abstract values, and plain laws for it. No conditions. -/
import Derived.Test.YtmlknpghkclffaaGreatDoorAQ
import Derived.Test.YtmlknpghkclffaaGreatDoorAY
import Derived.Test.YtmlknpghkclffaaGreatDoorAU
import Derived.Test.YtmlknpghkclffaaGreatDoorAO
import Derived.Test.YtmlknpghkclffaaGreatDoorAK
import Derived.Test.YtmlknpghkclffaaGreatDoorAW
import Derived.Test.YtmlknpghkclffaaGreatDoorAZ
import Derived.Test.YtmlknpghkclffaaGreatDoorAP
import Derived.Test.YtmlknpghkclffaaGreatDoorAR
set_option linter.unusedSimpArgs false
set_option linter.unusedVariables false
section
/- The order of the layers by their speeds: a stable sort and a selection give the same. -/
namespace Go.Fly
open Go
theorem sq_lt {x y : Int} (h0 : 0 ≤ x) (h : x < y) : x * x < y * y := by
  have h1 : x * x ≤ x * y := Int.mul_le_mul_of_nonneg_left (by omega) h0
  have h2 : x * y < y * y := Int.mul_lt_mul_of_pos_right h (by omega)
  omega
theorem sq_le {x y : Int} (h0 : 0 ≤ x) (h : x ≤ y) : x * x ≤ y * y := Int.mul_le_mul h h h0 (by omega)
theorem crossA {a b c d D : Int} (ha : 0 ≤ a) (hb : 0 ≤ b) (hc : 0 ≤ c) (hd : 0 ≤ d) (hD : 0 ≤ D) (h1 : a*a*D ≤ b*b) (h2 : c*c*D ≤ d*d) : a*c*D ≤ b*d := by
  refine Int.not_lt.1 fun h => ?_
  have h3 := sq_lt (Int.mul_nonneg hb hd) h
  have h4 : (a*a*D)*(c*c*D) ≤ (b*b)*(d*d) := Int.mul_le_mul h1 h2 (Int.mul_nonneg (Int.mul_nonneg hc hc) hD) (Int.mul_nonneg hb hb)
  grind
theorem crossB {a b c d D : Int} (ha : 0 ≤ a) (hb : 0 ≤ b) (hc : 0 ≤ c) (hd : 0 ≤ d) (hD : 0 ≤ D) (h1 : b*b ≤ a*a*D) (h2 : d*d ≤ c*c*D) : b*d ≤ a*c*D := by
  refine Int.not_lt.1 fun h => ?_
  have h3 := sq_lt (Int.mul_nonneg (Int.mul_nonneg ha hc) hD) h
  have h4 : (b*b)*(d*d) ≤ (a*a*D)*(c*c*D) := Int.mul_le_mul h1 h2 (Int.mul_nonneg hd hd) (Int.mul_nonneg (Int.mul_nonneg ha ha) hD)
  grind
theorem expA (a c D : Int) : (a+c)*(a+c)*D = a*a*D + 2*(a*c*D) + c*c*D := by grind
theorem expB (a c : Int) : (a+c)*(a+c) = a*a + 2*(a*c) + c*c := by grind
theorem sumA {a b c d D : Int} (ha : 0 ≤ a) (hb : 0 ≤ b) (hc : 0 ≤ c) (hd : 0 ≤ d) (hD : 0 ≤ D) (h1 : a*a*D ≤ b*b) (h2 : c*c*D ≤ d*d) : (a+c)*(a+c)*D ≤ (b+d)*(b+d) := by
  rw [expA, expB]; have := crossA ha hb hc hd hD h1 h2; omega
theorem sumB {a b c d D : Int} (ha : 0 ≤ a) (hb : 0 ≤ b) (hc : 0 ≤ c) (hd : 0 ≤ d) (hD : 0 ≤ D) (h1 : b*b ≤ a*a*D) (h2 : d*d ≤ c*c*D) : (b+d)*(b+d) ≤ (a+c)*(a+c)*D := by
  rw [expA, expB]; have := crossB ha hb hc hd hD h1 h2; omega
theorem sumA' {a b c d D : Int} (ha : 0 ≤ a) (hb : 0 ≤ b) (hc : 0 ≤ c) (hd : 0 ≤ d) (hD : 0 ≤ D) (h1 : a*a*D < b*b) (h2 : c*c*D ≤ d*d) : (a+c)*(a+c)*D < (b+d)*(b+d) := by
  rw [expA, expB]; have := crossA ha hb hc hd hD (Int.le_of_lt h1) h2; omega
theorem sumB' {a b c d D : Int} (ha : 0 ≤ a) (hb : 0 ≤ b) (hc : 0 ≤ c) (hd : 0 ≤ d) (hD : 0 ≤ D) (h1 : b*b < a*a*D) (h2 : d*d ≤ c*c*D) : (b+d)*(b+d) < (a+c)*(a+c)*D := by
  rw [expA, expB]; have := crossB ha hb hc hd hD (Int.le_of_lt h1) h2; omega
/-- s times the root of D, and w, together are at least zero. -/
def Ge (D s w : Int) : Prop := 0 ≤ (if s < 0 then -(s * s * D) else s * s * D) + (if w < 0 then -(w * w) else w * w)
theorem sqN (x : Int) : 0 ≤ x * x := by
  rcases Int.le_total 0 x with h | h
  · exact Int.mul_nonneg h h
  · exact Int.mul_nonneg_of_nonpos_of_nonpos h h
theorem ge_pp {D a b : Int} (hD : 0 < D) (ha : 0 ≤ a) (hb : 0 ≤ b) : Ge D a b := by
  unfold Ge
  rw [if_neg (by omega), if_neg (by omega)]
  have := Int.mul_nonneg (sqN a) (Int.le_of_lt hD); have := sqN b; omega
theorem ge_pn {D a b : Int} (hD : 0 < D) (ha : 0 ≤ a) (hb : 0 ≤ b) : Ge D a (-b) ↔ b * b ≤ a * a * D := by
  unfold Ge
  rw [if_neg (by omega), Int.neg_mul_neg]
  by_cases h : -b < 0
  · rw [if_pos h]; omega
  · obtain rfl : b = 0 := by omega
    rw [if_neg h]
    have := Int.mul_nonneg (sqN a) (Int.le_of_lt hD); omega
theorem ge_np {D a b : Int} (hD : 0 < D) (ha : 0 ≤ a) (hb : 0 ≤ b) : Ge D (-a) b ↔ a * a * D ≤ b * b := by
  unfold Ge
  rw [if_neg (show ¬ b < 0 by omega), Int.neg_mul_neg]
  by_cases h : -a < 0
  · rw [if_pos h]; omega
  · obtain rfl : a = 0 := by omega
    rw [if_neg h]
    have := sqN b; simp
theorem ge_nn {D a b : Int} (hD : 0 < D) (ha : 0 < a) (hb : 0 < b) : ¬ Ge D (-a) (-b) := by
  unfold Ge
  rw [if_pos (by omega), if_pos (by omega), Int.neg_mul_neg, Int.neg_mul_neg]
  have := Int.mul_pos (Int.mul_pos ha ha) hD
  have := Int.mul_pos hb hb
  omega
theorem ge_21 {D a b c d : Int} (hD : 0 < D) (ha : 0 ≤ a) (hb : 0 ≤ b) (hc : 0 ≤ c) (hd : 0 ≤ d) (h : b * b ≤ a * a * D) : Ge D (a + c) (-b + d) := by
  by_cases q : b ≤ d
  · exact ge_pp hD (by omega) (by omega)
  · rw [show -b + d = -(b - d) by omega, ge_pn hD (by omega) (by omega)]
    have h1 := sq_le (x := b - d) (y := b) (by omega) (by omega)
    have h2 := Int.mul_le_mul_of_nonneg_right (sq_le (x := a) (y := a + c) ha (by omega)) (Int.le_of_lt hD)
    omega
theorem ge_31 {D a b c d : Int} (hD : 0 < D) (ha : 0 ≤ a) (hb : 0 ≤ b) (hc : 0 ≤ c) (hd : 0 ≤ d) (h : a * a * D ≤ b * b) : Ge D (-a + c) (b + d) := by
  by_cases q : a ≤ c
  · exact ge_pp hD (by omega) (by omega)
  · rw [show -a + c = -(a - c) by omega, ge_np hD (by omega) (by omega)]
    have h1 := Int.mul_le_mul_of_nonneg_right (sq_le (x := a - c) (y := a) (by omega) (by omega)) (Int.le_of_lt hD)
    have h2 := sq_le (x := b) (y := b + d) hb (by omega)
    omega
theorem ge_23 {D a b c d : Int} (hD : 0 < D) (ha : 0 ≤ a) (hb : 0 ≤ b) (hc : 0 ≤ c) (hd : 0 ≤ d) (h : b * b ≤ a * a * D) (h' : c * c * D ≤ d * d) : Ge D (a + -c) (-b + d) := by
  have hD' := Int.le_of_lt hD
  by_cases q : c ≤ a <;> by_cases r : b ≤ d
  · exact ge_pp hD (by omega) (by omega)
  · rw [show -b + d = -(b - d) by omega, ge_pn hD (by omega) (by omega)]
    refine Int.not_lt.1 fun k => ?_
    have := sumA' (a := a + -c) (b := b - d) (c := c) (d := d) (by omega) (by omega) hc hd hD' k h'
    rw [show a + -c + c = a by omega, show b - d + d = b by omega] at this
    omega
  · rw [show a + -c = -(c - a) by omega, ge_np hD (by omega) (by omega)]
    refine Int.not_lt.1 fun k => ?_
    have := sumB' (a := c - a) (b := -b + d) (c := a) (d := b) (by omega) (by omega) ha hb hD' k h
    rw [show c - a + a = c by omega, show -b + d + b = d by omega] at this
    omega
  · have h1 := Int.mul_le_mul_of_nonneg_right (sq_le (x := a) (y := c) (by omega) (by omega)) hD'
    have h2 := sq_lt (x := d) (y := b) (by omega) (by omega)
    omega
theorem ge_add {D s w s' w' : Int} (hD : 0 < D) (h : Ge D s w) (h' : Ge D s' w') : Ge D (s + s') (w + w') := by
  have hD' := Int.le_of_lt hD
  have neg : ∀ x : Int, x < 0 → ∃ a, 0 < a ∧ x = -a := fun x hx => ⟨-x, by omega, by omega⟩
  by_cases a1 : s < 0 <;> by_cases a2 : w < 0
  · obtain ⟨a, ha, rfl⟩ := neg _ a1
    obtain ⟨b, hb, rfl⟩ := neg _ a2
    exact absurd h (ge_nn hD ha hb)
  · obtain ⟨a, ha, rfl⟩ := neg _ a1
    rw [ge_np hD (by omega) (by omega)] at h
    by_cases b1 : s' < 0 <;> by_cases b2 : w' < 0
    · obtain ⟨c, hc, rfl⟩ := neg _ b1
      obtain ⟨d, hd, rfl⟩ := neg _ b2
      exact absurd h' (ge_nn hD hc hd)
    · obtain ⟨c, hc, rfl⟩ := neg _ b1
      rw [ge_np hD (by omega) (by omega)] at h'
      rw [show -a + -c = -(a + c) by omega, ge_np hD (by omega) (by omega)]
      exact sumA (by omega) (by omega) (by omega) (by omega) hD' h h'
    · obtain ⟨d, hd, rfl⟩ := neg _ b2
      rw [ge_pn hD (by omega) (by omega)] at h'
      rw [Int.add_comm (-a), Int.add_comm w]
      exact ge_23 hD (by omega) (by omega) (by omega) (by omega) h' h
    · exact ge_31 hD (by omega) (by omega) (by omega) (by omega) h
  · obtain ⟨b, hb, rfl⟩ := neg _ a2
    rw [ge_pn hD (by omega) (by omega)] at h
    by_cases b1 : s' < 0 <;> by_cases b2 : w' < 0
    · obtain ⟨c, hc, rfl⟩ := neg _ b1
      obtain ⟨d, hd, rfl⟩ := neg _ b2
      exact absurd h' (ge_nn hD hc hd)
    · obtain ⟨c, hc, rfl⟩ := neg _ b1
      rw [ge_np hD (by omega) (by omega)] at h'
      exact ge_23 hD (by omega) (by omega) (by omega) (by omega) h h'
    · obtain ⟨d, hd, rfl⟩ := neg _ b2
      rw [ge_pn hD (by omega) (by omega)] at h'
      rw [show -b + -d = -(b + d) by omega, ge_pn hD (by omega) (by omega)]
      exact sumB (by omega) (by omega) (by omega) (by omega) hD' h h'
    · exact ge_21 hD (by omega) (by omega) (by omega) (by omega) h
  · by_cases b1 : s' < 0 <;> by_cases b2 : w' < 0
    · obtain ⟨c, hc, rfl⟩ := neg _ b1
      obtain ⟨d, hd, rfl⟩ := neg _ b2
      exact absurd h' (ge_nn hD hc hd)
    · obtain ⟨c, hc, rfl⟩ := neg _ b1
      rw [ge_np hD (by omega) (by omega)] at h'
      rw [Int.add_comm s, Int.add_comm w]
      exact ge_31 hD (by omega) (by omega) (by omega) (by omega) h'
    · obtain ⟨d, hd, rfl⟩ := neg _ b2
      rw [ge_pn hD (by omega) (by omega)] at h'
      rw [Int.add_comm s, Int.add_comm w]
      exact ge_21 hD (by omega) (by omega) (by omega) (by omega) h'
    · exact ge_pp hD (by omega) (by omega)

def spd (get : Nat → List V) (i : Nat) : Int := cell get i 1
def alw (get : Nat → List V) (x y : Int) (i : Nat) : Int := cell get i 2 * x + cell get i 3 * y
theorem cmpV_ge {get : Nat → List V} {i j : Nat} {x y : Int} : 0 ≤ cmpV get i j x y ↔ Ge (x * x + y * y) (spd get i - spd get j) (alw get x y i - alw get x y j) := by
  have e : (cell get i 2 - cell get j 2) * x + (cell get i 3 - cell get j 3) * y = alw get x y i - alw get x y j := by
    unfold alw; rw [Int.sub_mul, Int.sub_mul]; omega
  unfold cmpV fastE Ge leftE rightE spd
  rw [e]
  unfold cmpE
  split <;> rename_i h
  · constructor
    · intro q; omega
    · intro q; omega
  · split <;> (constructor <;> intro q <;> omega)
theorem cmpV_neg {get : Nat → List V} {i j : Nat} {x y : Int} : cmpV get j i x y = -cmpV get i j x y := by
  have e : (cell get i 2 - cell get j 2) * x + (cell get i 3 - cell get j 3) * y = -((cell get j 2 - cell get i 2) * x + (cell get j 3 - cell get i 3) * y) := by
    simp only [Int.sub_mul]; omega
  have e2 : cell get i 1 - cell get j 1 = -(cell get j 1 - cell get i 1) := by omega
  unfold cmpV fastE leftE rightE
  rw [e, e2]
  generalize cell get j 1 - cell get i 1 = s
  generalize (cell get j 2 - cell get i 2) * x + (cell get j 3 - cell get i 3) * y = w
  rw [Int.neg_mul_neg, Int.neg_mul_neg]
  have s0 : s = 0 → s * s * (x * x + y * y) = 0 := fun h => by rw [h]; simp
  have w0 : w = 0 → w * w = 0 := fun h => by rw [h]; rfl
  generalize s * s * (x * x + y * y) = S at *
  generalize w * w = W at *
  unfold cmpE
  (repeat' split) <;> first | rfl | omega
/-- One layer before another: the faster one, or of two alike the lower one. -/
def Bef (get : Nat → List V) (x y : Int) (a b : Int) : Prop := 0 < cmpV get a.toNat b.toNat x y ∨ (cmpV get a.toNat b.toNat x y = 0 ∧ a < b)
theorem cmpV_trans {get : Nat → List V} {x y : Int} (hD : 0 < x * x + y * y) {a b c : Nat} (h : 0 ≤ cmpV get a b x y) (h' : 0 ≤ cmpV get b c x y) : 0 ≤ cmpV get a c x y := by
  rw [cmpV_ge] at *
  have := ge_add hD h h'
  rwa [show spd get a - spd get b + (spd get b - spd get c) = spd get a - spd get c by omega, show alw get x y a - alw get x y b + (alw get x y b - alw get x y c) = alw get x y a - alw get x y c by omega] at this
theorem Bef.trans {get : Nat → List V} {x y : Int} (hD : 0 < x * x + y * y) {a b c : Int} (h : Bef get x y a b) (h' : Bef get x y b c) : Bef get x y a c := by
  have t1 := cmpV_trans (get := get) (a := a.toNat) (b := b.toNat) (c := c.toNat) hD (by rcases h with q | q <;> omega) (by rcases h' with q | q <;> omega)
  have n1 := cmpV_neg (get := get) (i := a.toNat) (j := b.toNat) (x := x) (y := y)
  have n2 := cmpV_neg (get := get) (i := b.toNat) (j := c.toNat) (x := x) (y := y)
  have n3 := cmpV_neg (get := get) (i := a.toNat) (j := c.toNat) (x := x) (y := y)
  by_cases q : cmpV get a.toNat c.toNat x y = 0
  · have t2 := cmpV_trans (get := get) (a := b.toNat) (b := c.toNat) (c := a.toNat) hD (by rcases h' with q | q <;> omega) (by omega)
    have t3 := cmpV_trans (get := get) (a := c.toNat) (b := a.toNat) (c := b.toNat) hD (by omega) (by rcases h with q | q <;> omega)
    exact .inr ⟨q, by rcases h with q | q <;> rcases h' with q | q <;> omega⟩
  · exact .inl (by omega)
/-- Every index is there. -/
def Onto (n : Nat) (g : Nat → Int) : Prop := ∀ m : Nat, m < n → ∃ i, i < n ∧ g i = m
theorem Onto.swap {n : Nat} {g : Nat → Int} (h : Onto n g) {j : Nat} (hj : j < n) (h0 : 0 < j) : Onto n (swapG g j) := fun m hm => by
  obtain ⟨i, hi, e⟩ := h m hm
  by_cases a : i = j
  · subst a
    exact ⟨i - 1, by omega, by unfold swapG; rw [if_neg (by omega), if_pos rfl]; exact e⟩
  · by_cases b : i = j - 1
    · exact ⟨j, hj, by unfold swapG; rw [if_pos rfl, ← b]; exact e⟩
    · exact ⟨i, hi, by unfold swapG; rw [if_neg a, if_neg b]; exact e⟩
end Go.Fly
end
section
/- The reference's rank, and the law on it. -/
namespace Go.Fly
open Go
end Go.Fly
end
section
/- The law on a path and its way back: its plain part. -/
namespace Go.Fly
open Go
/-- A height between two others. -/
def clampE (lo hi x : Int) : Int := max lo (min hi x)
theorem over_clamp {bot top lo hi : Int} (h : bot ≤ top) (h2 : lo ≤ hi) : overE bot top lo hi = clampE lo hi top - clampE lo hi bot := by
  unfold overE clampE; omega
end Go.Fly
end
section
/- The law on a path and its way back: the same both ways; bounds. -/
namespace Go.Fly
open Go
end Go.Fly
end
section
/- A layer that is split: what the steps of both parts are. -/
namespace Go.Fly
open Go
/-! Roots of the squares of two parts. -/
/-! Sums where one part is two. -/
end Go.Fly
end
section
/- A layer that is split: where both parts lie, and what is reckoned of them. -/
namespace Go.Fly
open Go
theorem at_spec {n : Nat} {get : Nat → List V} (hok : AirOk n get) {z : Int} (hz : z ≤ 20000) : ∃ i : Nat, i < n ∧ atE n get z = i ∧ z < topE n get i ∧ ∀ j, j < i → topE n get j ≤ z := by
  obtain ⟨i, hi, e⟩ := atE_ok hok hz
  rcases idxF_spec (p := fun i => decide (z < topE n get i)) (k := n) (i := 0) with e2 | ⟨j, q1, q2, q3, q4, q5⟩
  · have : atE n get z = -1 := e2
    omega
  · have e3 : atE n get z = j := q3
    obtain rfl : i = j := by omega
    exact ⟨i, hi, e, by simpa using q4, fun k hk => by
      have := q5 k (by omega) hk
      simpa using this⟩
/-- A layer that can be split at a height. -/
structure Spl (n : Nat) (get : Nat → List V) (h : Int) (I : Nat) : Prop where
  ok : AirOk n get
  lt : I < n
  at_ : splI n get h = I
  low : botE get I < h
  up : h < topE n get I
  near : h ≤ botE get I + 2000
section
variable {n : Nat} {get : Nat → List V} {h : Int} {I : Nat}
abbrev splW (n : Nat) (get : Nat → List V) (h : Int) (I : Nat) : Nat → List V := repG get (splV n get h) I
theorem Spl.lt_ (s : Spl n get h I) {j : Nat} (hj : j < I) : splW n get h I j = get j := if_pos hj
theorem Spl.gt_ (s : Spl n get h I) {j : Nat} (hj : I + 1 < j) : splW n get h I j = get (j - 1) := by
  unfold splW repG; rw [if_neg (by omega), if_neg (by omega), if_neg (by omega)]
theorem Spl.I_ (s : Spl n get h I) : splW n get h I I = splV n get h 0 := by
  unfold splW repG; rw [if_neg (by omega), if_pos rfl]
theorem Spl.I1_ (s : Spl n get h I) : splW n get h I (I + 1) = splV n get h 1 := by
  unfold splW repG; rw [if_neg (by omega), if_neg (by omega), if_pos rfl]
theorem Spl.A_ (s : Spl n get h I) : splA n get h = h - botE get I := by unfold splA; rw [s.at_]
theorem cellOf {g g' : Nat → List V} {i j k : Nat} (e : g i = g' j) : cell g i k = cell g' j k := by unfold cell; rw [e]
theorem inNOf {g g' : Nat → List V} {i j k : Nat} (e : g i = g' j) : inN g i k = inN g' j k := by unfold inN; rw [e]
theorem inGOf {g g' : Nat → List V} {i j k : Nat} (e : g i = g' j) : inG g i k = inG g' j k := by unfold inG; rw [e]
theorem Spl.th0 (s : Spl n get h I) : cell (splW n get h I) I 0 = h - botE get I := by
  rw [cellOf (g' := splV n get h) (j := 0) s.I_, ← s.A_]; rfl
theorem Spl.th1 (s : Spl n get h I) : cell (splW n get h I) (I + 1) 0 = splB n get h := by
  rw [cellOf (g' := splV n get h) (j := 1) s.I1_]; rfl
theorem Spl.bot_le (s : Spl n get h I) {j : Nat} (hj : j ≤ I) : botE (splW n get h I) j = botE get j :=
  bot_congr fun k hk => cellOf (s.lt_ (by omega))
theorem Spl.bot1 (s : Spl n get h I) : botE (splW n get h I) (I + 1) = h := by
  show botE (splW n get h I) I + cell (splW n get h I) I 0 = h
  rw [s.bot_le (Nat.le_refl I), s.th0]; omega
theorem Spl.bot_gt (s : Spl n get h I) : ∀ {j : Nat}, I < j → j < n → botE (splW n get h I) (j + 1) = botE get j
  | 0, h1, _ => by omega
  | j + 1, h1, h2 => by
    show botE (splW n get h I) (j + 1) + cell (splW n get h I) (j + 1) 0 = botE get j + cell get j 0
    by_cases e : I = j
    · subst e
      rw [s.bot1, s.th1]
      unfold splB
      rw [s.at_, if_pos (by omega), s.A_]
      omega
    · rw [s.bot_gt (j := j) (by omega) (by omega), cellOf (g' := get) (j := j) (s.gt_ (j := j + 1) (by omega))]
theorem Spl.top_lt (s : Spl n get h I) {j : Nat} (hj : j < I) : topE (n + 1) (splW n get h I) j = topE n get j := by
  have := s.lt
  unfold topE
  rw [if_neg (by omega), if_neg (by omega), s.bot_le (by omega), cellOf (s.lt_ hj)]
theorem Spl.top0 (s : Spl n get h I) : topE (n + 1) (splW n get h I) I = h := by
  have := s.lt
  unfold topE
  rw [if_neg (by omega)]
  exact s.bot1
theorem Spl.top_gt (s : Spl n get h I) {j : Nat} (h1 : I ≤ j) (h2 : j < n) : topE (n + 1) (splW n get h I) (j + 1) = topE n get j := by
  unfold topE
  by_cases e : j + 1 = n
  · rw [if_pos (by omega), if_pos (by omega)]
  · rw [if_neg (by omega), if_neg (by omega)]
    show botE (splW n get h I) (j + 1 + 1) = botE get (j + 1)
    exact s.bot_gt (by omega) (by omega)
/-- Where a height lies, before and after. -/
theorem Spl.at_w (s : Spl n get h I) {z : Int} {i : Nat} (hi : i < n) (ei : atE n get z = i) (h1 : z < topE n get i) (h2 : ∀ j, j < i → topE n get j ≤ z) :
    atE (n + 1) (splW n get h I) z = ((if i < I then i else if i = I then (if z < h then I else I + 1) else i + 1 : Nat) : Int) := by
  have hIn := s.lt
  by_cases a : i < I
  · rw [if_pos a]
    exact atE_eq (by omega) (by rw [s.top_lt a]; exact h1) fun j hj => by rw [s.top_lt (by omega)]; have := h2 j hj; omega
  · rw [if_neg a]
    by_cases b : i = I
    · subst b
      rw [if_pos rfl]
      by_cases c : z < h
      · rw [if_pos c]
        exact atE_eq (by omega) (by rw [s.top0]; exact c) fun j hj => by rw [s.top_lt hj]; have := h2 j hj; omega
      · rw [if_neg c]
        refine atE_eq (by omega) (by rw [s.top_gt (Nat.le_refl i) hi]; exact h1) fun j hj => ?_
        by_cases e : j = i
        · subst e; rw [s.top0]; exact c
        · rw [s.top_lt (by omega)]; have := h2 j (by omega); omega
    · rw [if_neg b]
      have hup := s.up
      have hI2 := h2 I (by omega)
      refine atE_eq (by omega) (by rw [s.top_gt (by omega) hi]; exact h1) fun j hj => ?_
      by_cases e : j < I
      · rw [s.top_lt e]; have := h2 j (by omega); omega
      · by_cases e2 : j = I
        · subst e2; rw [s.top0]; omega
        · obtain ⟨k, rfl⟩ : ∃ k, j = k + 1 := ⟨j - 1, by omega⟩
          rw [s.top_gt (by omega) (by omega)]
          have := h2 k (by omega); omega
/-- The parts of a way that lie in the layers, before and after. -/
theorem Spl.part (s : Spl n get h I) {z0 z1 flat : Int} (hz : z0 ≤ z1) (hf : flat ≤ 20000) :
    (∀ j, j < I → partE (n + 1) (splW n get h I) z0 z1 flat j = partE n get z0 z1 flat j) ∧ (∀ j, I < j → j < n → partE (n + 1) (splW n get h I) z0 z1 flat (j + 1) = partE n get z0 z1 flat j) ∧
      partE (n + 1) (splW n get h I) z0 z1 flat I + partE (n + 1) (splW n get h I) z0 z1 flat (I + 1) = partE n get z0 z1 flat I := by
  have hIn := s.lt
  by_cases e : z1 - z0 = 0
  · obtain ⟨i, hi, ei, h1, h2⟩ := at_spec s.ok hf
    have ew := s.at_w hi ei h1 h2
    unfold partE
    simp only [if_pos e, ew, ei]
    refine ⟨fun j hj => ?_, fun j hj hj2 => ?_, ?_⟩
    · split <;> split <;> (repeat' split at *) <;> omega
    · split <;> split <;> (repeat' split at *) <;> omega
    · (repeat' split) <;> (repeat' split at *) <;> omega
  · unfold partE
    simp only [if_neg e]
    refine ⟨fun j hj => ?_, fun j hj hj2 => ?_, ?_⟩
    · rw [s.bot_le (by omega), s.top_lt hj]
    · rw [s.bot_gt hj hj2, s.top_gt (by omega) hj2]
    · rw [s.bot_le (Nat.le_refl I), s.top0, s.bot1, s.top_gt (Nat.le_refl I) hIn]
      have a := s.low
      have b := s.up
      rw [over_clamp (Int.le_of_lt a) hz, over_clamp (Int.le_of_lt b) hz, over_clamp (by omega) hz]
      omega
end
end Go.Fly
end
section
/- The law on layers that are split: its plain part. -/
namespace Go.Fly
open Go
section
variable {n : Nat} {get : Nat → List V} {h : Int} {I : Nat}
/-- From which layer a layer of the split air is. -/
def srcI (I j : Nat) : Nat := if j ≤ I then j else j - 1
theorem Spl.src (s : Spl n get h I) (j : Nat) : (∀ k, k = 1 ∨ k = 2 ∨ k = 3 → cell (splW n get h I) j k = cell get (srcI I j) k) ∧ inN (splW n get h I) j 4 = inN get (srcI I j) 4 ∧ inG (splW n get h I) j 4 = inG get (srcI I j) 4 := by
  unfold srcI
  have h2 := s.at_
  by_cases a : j < I
  · rw [if_pos (by omega)]
    exact ⟨fun k _ => cellOf (s.lt_ a), inNOf (s.lt_ a), inGOf (s.lt_ a)⟩
  · by_cases b : j = I
    · subst b
      rw [if_pos (Nat.le_refl j)]
      refine ⟨fun k hk => ?_, ?_, ?_⟩
      · rw [cellOf (g' := splV n get h) (j := 0) s.I_]
        rcases hk with rfl | rfl | rfl
        · show cell get (splI n get h) 1 = _; rw [h2]
        · show cell get (splI n get h) 2 = _; rw [h2]
        · show cell get (splI n get h) 3 = _; rw [h2]
      · rw [inNOf (g' := splV n get h) (j := 0) s.I_]; show inN get (splI n get h) 4 = _; rw [h2]
      · rw [inGOf (g' := splV n get h) (j := 0) s.I_]; show inG get (splI n get h) 4 = _; rw [h2]
    · rw [if_neg (by omega)]
      by_cases c : j = I + 1
      · subst c
        rw [Nat.add_sub_cancel]
        refine ⟨fun k hk => ?_, ?_, ?_⟩
        · rw [cellOf (g' := splV n get h) (j := 1) s.I1_]
          rcases hk with rfl | rfl | rfl
          · show cell get (splI n get h) 1 = _; rw [h2]
          · show cell get (splI n get h) 2 = _; rw [h2]
          · show cell get (splI n get h) 3 = _; rw [h2]
        · rw [inNOf (g' := splV n get h) (j := 1) s.I1_]; show inN get (splI n get h) 4 = _; rw [h2]
        · rw [inGOf (g' := splV n get h) (j := 1) s.I1_]; show inG get (splI n get h) 4 = _; rw [h2]
      · exact ⟨fun k _ => cellOf (s.gt_ (by omega)), inNOf (s.gt_ (by omega)), inGOf (s.gt_ (by omega))⟩
theorem Spl.th (s : Spl n get h I) {j : Nat} (hj : j < n + 1) : 1 ≤ cell (splW n get h I) j 0 ∧ cell (splW n get h I) j 0 ≤ 2000 := by
  have hIn := s.lt
  have h1 := s.low
  have h2 := s.near
  have h3 := s.up
  have h5 := s.ok.th I hIn
  by_cases a : j < I
  · rw [cellOf (s.lt_ a)]; exact s.ok.th j (by omega)
  · by_cases b : j = I
    · subst b; rw [s.th0]; omega
    · by_cases c : j = I + 1
      · subst c; rw [s.th1]
        unfold splB
        rw [s.at_, s.A_]
        split
        · rw [topE, if_neg (by omega)] at h3; omega
        · omega
      · rw [cellOf (s.gt_ (by omega))]; exact s.ok.th (j - 1) (by omega)
end
end Go.Fly
end
section
/- What explains what is heard: the plain part of the law. -/
namespace Go.Fly
open Go
theorem emLo_le {lo ph y : Int} (hy : 0 ≤ y) (hp : 0 ≤ ph) (hl : 0 ≤ lo) (hz : ph = 0 → lo = 0) : lo * 1000 ≤ y * ph ↔ emLo lo ph ≤ y := by
  unfold emLo
  by_cases h : 0 < ph
  · rw [if_pos h]
    constructor
    · intro q
      have : (lo * 1000 + ph - 1) / ph < y + 1 := Int.ediv_lt_of_lt_mul h (by rw [Int.add_mul]; omega)
      omega
    · intro q
      have h2 := Int.lt_ediv_add_one_mul_self (lo * 1000 + ph - 1) h
      have h3 := Int.mul_le_mul_of_nonneg_right q (Int.le_of_lt h)
      rw [Int.add_mul] at h2
      omega
  · rw [if_neg h]
    have e : ph = 0 := by omega
    have e2 := hz e
    subst e; subst e2
    simp [hy]
theorem emHi_ge {hi pl y : Int} (hy : y ≤ 10000000000000) (hp : 0 ≤ pl) (hh : 0 ≤ hi) : y * pl ≤ hi * 1000 ↔ y ≤ emHi hi pl := by
  unfold emHi
  by_cases h : 0 < pl
  · rw [if_pos h]
    have := Int.le_ediv_iff_mul_le (a := y) (b := hi * 1000) h
    omega
  · rw [if_neg h]
    have e : pl = 0 := by omega
    subst e
    simp only [Int.mul_zero]
    omega
theorem emLo_nn {lo ph : Int} (hl : 0 ≤ lo) (hp : 0 ≤ ph) : 0 ≤ emLo lo ph := by
  unfold emLo
  split
  · exact Int.ediv_nonneg (by omega) hp
  · split <;> omega
theorem emHi_max {hi pl : Int} : emHi hi pl ≤ 10000000000000 := by unfold emHi; split <;> omega
theorem emLo_mono {lo lo' ph : Int} (h0 : 0 ≤ lo') (h : lo' ≤ lo) (hp : 0 ≤ ph) : emLo lo' ph ≤ emLo lo ph := by
  unfold emLo
  by_cases q : 0 < ph
  · rw [if_pos q, if_pos q]
    exact Int.ediv_le_ediv q (by omega)
  · rw [if_neg q, if_neg q]
    split <;> split <;> omega
theorem emHi_mono {hi hi' pl : Int} (h : hi ≤ hi') : emHi hi pl ≤ emHi hi' pl := by
  unfold emHi
  by_cases q : 0 < pl
  · rw [if_pos q, if_pos q]
    have := Int.ediv_le_ediv q (show hi * 1000 ≤ hi' * 1000 by omega)
    omega
  · rw [if_neg q, if_neg q]; omega
/-- The least that is heard, where nothing passes. -/
theorem arr_zero {e pl ph : Int} (h0 : 0 ≤ pl) (h1 : pl ≤ ph) (hz : ph = 0) : arrLo e pl = 0 := by
  have : pl = 0 := by omega
  subst this
  unfold arrLo
  simp
/-- An air whose layers let pass what they let pass at most. -/
def clrP (g : Nat → List V) : Nat → List V := fun j => [.int .i64 (cell g j 1), .int .i64 (cell g j 1)]
def clrG (get : Nat → List V) : Nat → List V := fun i => [.int .i64 (cell get i 0), .int .i64 (cell get i 1), .int .i64 (cell get i 2), .int .i64 (cell get i 3), .sl (inN get i 4) 2 (clrP (inG get i 4))]
theorem isAir_clr {n : Nat} {get : Nat → List V} (h : IsAir n get) : IsAir n (clrG get) := ⟨h.1, fun i hi => ⟨rfl, ⟨(h.2 i hi).2.1, fun j _ => rfl⟩⟩⟩
theorem layerE_clr {th sp wx wy : Int} {m : Nat} {g : Nat → List V} {bands : Int} (h : layerE th sp wx wy m g bands = 0) : layerE th sp wx wy m (clrP g) bands = 0 := by
  unfold layerE ivsE at h ⊢
  split
  · rename_i h1; rw [if_pos h1] at h; exact h
  · rename_i h1
    rw [if_neg h1] at h
    split
    · rename_i h2; rw [if_pos h2] at h; exact h
    · rename_i h2
      rw [if_neg h2] at h
      rw [firstI_zero] at h ⊢
      intro j h3 h4
      have := ivE_zero.1 (h j h3 h4)
      refine ivE_zero.2 ?_
      show 0 ≤ cell g j 1 ∧ cell g j 1 ≤ cell g j 1 ∧ cell g j 1 ≤ 1000
      omega
theorem airE_clr {n : Nat} {get : Nat → List V} (h : airE n get = 0) : airE n (clrG get) = 0 := by
  unfold airE at h ⊢
  split
  · rename_i h1; rw [if_pos h1] at h; exact h
  · rename_i h1
    rw [if_neg h1] at h
    rw [firstI_zero] at h ⊢
    exact fun i h2 h3 => layerE_clr (h i h2 h3)
theorem stG_congr {n : Nat} {get get' : Nat → List V} (h : ∀ j, cell get' j 0 = cell get j 0) (sq z0 z1 y0 y1 flat : Int) (i : Nat) : stLo n get' sq z0 z1 y0 y1 flat i = stLo n get sq z0 z1 y0 y1 flat i ∧ stHi n get' sq z0 z1 y0 y1 flat i = stHi n get sq z0 z1 y0 y1 flat i := by
  have e : partG n get' z0 z1 y0 y1 flat i = partG n get z0 z1 y0 y1 flat i := by
    unfold partG
    rw [at_congr h, bot_congr fun j _ => h j, top_congr fun j _ => h j]
  unfold stLo stHi
  rw [e]
  exact ⟨rfl, rfl⟩
theorem passHi_clr {get : Nat → List V} {s : Nat → Int} {b : Nat} : ∀ {n : Nat}, passHi (clrG get) s b n = passHi get s b n
  | 0 => rfl
  | n + 1 => by
    simp only [passHi]
    rw [passHi_clr (n := n)]
    rfl
theorem d_clr {n : Nat} {get : Nat → List V} {a b c d e f : Int} (hok : AirOk n get) (hp : PathOk a b c d e f) {k : Nat} (hk : k < inN get 0 4) :
    dLo n get a b c d e f k ≤ dLo n (clrG get) a b c d e f k ∧ dHi n (clrG get) a b c d e f k = dHi n get a b c d e f k := by
  have hsq := sqE_bd hp
  have hst := fun i => stG_bd (n := n) (get := get) (flat := c) (sq := sqE a b c d e f) (y0 := 0) (y1 := 0) ⟨hsq.1, by omega⟩ (show min c f ≤ max c f by omega) (Int.le_refl 0) i
  have hc : ∀ j, cell (clrG get) j 0 = cell get j 0 := fun _ => rfl
  unfold dLo dHi qLo qHi
  rw [show (fun i => stHi n (clrG get) (sqE a b c d e f) (min c f) (max c f) 0 0 c i) = fun i => stHi n get (sqE a b c d e f) (min c f) (max c f) 0 0 c i from funext fun i => (stG_congr hc _ _ _ _ _ _ i).2,
    show (fun i => stLo n (clrG get) (sqE a b c d e f) (min c f) (max c f) 0 0 c i) = fun i => stLo n get (sqE a b c d e f) (min c f) (max c f) 0 0 c i from funext fun i => (stG_congr hc _ _ _ _ _ _ i).1, passHi_clr]
  refine ⟨(pass_mono (get := clrG get) (get' := get) (fun i hi => ⟨?_, Int.le_refl _⟩) fun i hi => ?_).2, rfl⟩
  · have := hst i; omega
  · have := hok.pass i hi k hk
    show 0 ≤ cell (inG get i 4) k 0 ∧ cell (inG get i 4) k 0 ≤ cell (inG get i 4) k 1 ∧ cell (inG get i 4) k 1 ≤ 1000
    omega
end Go.Fly
end
section
/- What a ground reflects: the plain part of the law. -/
namespace Go.Fly
open Go
theorem by_dvd (re im : Int) : ((facBy re im : Nat) : Int) ∣ facTop re im ∧ ((facBy re im : Nat) : Int) ∣ 2 * im ∧ (0 ≤ facDen re im → ((facBy re im : Nat) : Int) ∣ facDen re im) := by
  have h1 : facBy re im ∣ (max (facTop re im) (-facTop re im)).toNat := Nat.dvd_trans (Nat.gcd_dvd_left _ _) (Nat.gcd_dvd_left _ _)
  have h2 : facBy re im ∣ (max (2 * im) (-(2 * im))).toNat := Nat.dvd_trans (Nat.gcd_dvd_left _ _) (Nat.gcd_dvd_right _ _)
  have h3 : facBy re im ∣ (facDen re im).toNat := Nat.gcd_dvd_right _ _
  have key : ∀ (k : Nat) (x : Int), k ∣ (max x (-x)).toNat → (k : Int) ∣ x := fun k x h => by
    rw [Int.ofNat_dvd_left]
    have : x.natAbs = (max x (-x)).toNat := by omega
    rw [this]; exact h
  refine ⟨key _ _ h1, key _ _ h2, fun h0 => ?_⟩
  rw [Int.ofNat_dvd_left]
  have : (facDen re im).natAbs = (facDen re im).toNat := by omega
  rw [this]; exact h3
/-- The factor's parts. -/
structure FacR (re im F G N : Int) (k : Nat) : Prop where
  pos : 0 < k
  top : facTop re im = F * k
  two : 2 * im = G * k
  den : facDen re im = N * k
theorem fac_r {re im : Int} (h : 0 ≤ re) : FacR re im ((facTop re im).tdiv (facBy re im)) ((2 * im).tdiv (facBy re im)) ((facDen re im).tdiv (facBy re im)) (facBy re im) := by
  have hp := den_pos (im := im) h
  obtain ⟨a, b, c⟩ := by_dvd re im
  exact ⟨facBy_pos h, (Int.tdiv_mul_cancel a).symm, (Int.tdiv_mul_cancel b).symm, (Int.tdiv_mul_cancel (c (by omega))).symm⟩
theorem le_of_mul {x y : Int} {k : Nat} (hk : 0 < k) (h : x * k ≤ y * k) : x ≤ y := Int.le_of_mul_le_mul_right h (by omega)
theorem fac_le {re im : Int} (h : 0 ≤ re) : facTop re im ≤ facDen re im ∧ -facTop re im ≤ facDen re im ∧ 2 * im ≤ facDen re im ∧ -(2 * im) ≤ facDen re im := by
  have h1 : 0 ≤ re * re := sq_nn re
  have h2 : 0 ≤ im * im := sq_nn im
  have h3 : 0 ≤ (im - 1) * (im - 1) := sq_nn _
  have h4 : 0 ≤ (im + 1) * (im + 1) := sq_nn _
  have e1 : (re + 1) * (re + 1) = re * re + 2 * re + 1 := by grind
  have e3 : (im - 1) * (im - 1) = im * im - 2 * im + 1 := by grind
  have e4 : (im + 1) * (im + 1) = im * im + 2 * im + 1 := by grind
  unfold facTop facDen
  omega
theorem facR_bd {re im F G N : Int} {k : Nat} (h0 : 0 ≤ re) (h1 : re ≤ 1000) (h2 : -1000 ≤ im) (h3 : im ≤ 1000) (r : FacR re im F G N k) : 1 ≤ N ∧ N ≤ 2002001 ∧ F ≤ N ∧ -F ≤ N ∧ G ≤ N ∧ -G ≤ N := by
  have hp := den_pos (im := im) h0
  have hb := imp_bd h0 h1 h2 h3
  obtain ⟨a, b, c, d⟩ := fac_le (im := im) h0
  have hd : facDen re im ≤ 2002001 := by unfold facDen; omega
  obtain ⟨p, r1, r2, r3⟩ := r
  rw [r3, r1] at a b
  rw [r3, r2] at c d
  have hN : 1 ≤ N := by
    refine Int.not_lt.1 fun q => ?_
    have := Int.mul_le_mul_of_nonneg_right (show N ≤ 0 by omega) (show (0 : Int) ≤ (k : Int) by omega)
    omega
  have hN2 : N ≤ 2002001 := by
    have := Int.mul_le_mul_of_nonneg_left (show (1 : Int) ≤ (k : Int) by omega) (show 0 ≤ N by omega)
    omega
  rw [← Int.neg_mul] at b d
  exact ⟨hN, hN2, le_of_mul p a, le_of_mul p b, le_of_mul p c, le_of_mul p d⟩
theorem fac_neg (re im : Int) : facTop re (-im) = facTop re im ∧ facDen re (-im) = facDen re im ∧ facBy re (-im) = facBy re im ∧ shNum re (-im) = shNum re im ∧ shBy re (-im) = shBy re im := by
  have e1 : facTop re (-im) = facTop re im := by unfold facTop; rw [Int.neg_mul_neg]
  have e2 : facDen re (-im) = facDen re im := by unfold facDen; rw [Int.neg_mul_neg]
  have e3 : shNum re (-im) = shNum re im := by unfold shNum; rw [Int.neg_mul_neg]
  have e4 : max (2 * -im) (-(2 * -im)) = max (2 * im) (-(2 * im)) := by omega
  refine ⟨e1, e2, ?_, e3, ?_⟩
  · unfold facBy; rw [e1, e2, e4]
  · unfold shBy; rw [e2, e3]
theorem fac_neg2 (im : Int) (k : Nat) : (2 * -im).tdiv k = -((2 * im).tdiv k) := by rw [show 2 * -im = -(2 * im) by omega, Int.neg_tdiv]
theorem shNum_nn (re im : Int) : 0 ≤ shNum re im := by
  unfold shNum
  have := sq_nn (re - 1)
  have := sq_nn im
  omega
theorem sh_den {re im : Int} : facDen re im = shNum re im + 4 * re := by
  unfold facDen shNum
  grind
theorem fac_sq {re im : Int} : facTop re im * facTop re im + (2 * im) * (2 * im) = shNum re im * facDen re im := by
  unfold facTop shNum facDen
  grind
/-- A quotient in its lowest terms, whatever both parts are multiplied by. -/
theorem low_scale {a b s d c : Nat} (hc : 0 < c) (hd : 0 < d) (h1 : a * c = s * d) (h2 : b * c = d * d) : a / Nat.gcd a b = s / Nat.gcd s d ∧ b / Nat.gcd a b = d / Nat.gcd s d := by
  have hg : Nat.gcd a b * c = Nat.gcd s d * d := by rw [← Nat.gcd_mul_right, h1, h2, Nat.gcd_mul_right]
  have hh : 0 < Nat.gcd s d := Nat.gcd_pos_of_pos_right _ hd
  have hhd : 0 < Nat.gcd s d * d := Nat.mul_pos hh hd
  have hgp : 0 < Nat.gcd a b := Nat.pos_of_ne_zero fun q => by rw [q, Nat.zero_mul] at hg; omega
  obtain ⟨a', ha⟩ := Nat.gcd_dvd_left a b
  obtain ⟨b', hb⟩ := Nat.gcd_dvd_right a b
  obtain ⟨s', hs⟩ := Nat.gcd_dvd_left s d
  obtain ⟨d', hd'⟩ := Nat.gcd_dvd_right s d
  generalize Nat.gcd a b = g at *
  generalize Nat.gcd s d = h at *
  have e1 : a / g = a' := by rw [ha, Nat.mul_div_cancel_left _ hgp]
  have e2 : b / g = b' := by rw [hb, Nat.mul_div_cancel_left _ hgp]
  have e3 : s / h = s' := by rw [hs, Nat.mul_div_cancel_left _ hh]
  have e4 : d / h = d' := by
    have : d / h = h * d' / h := by rw [← hd']
    rw [this, Nat.mul_div_cancel_left _ hh]
  rw [e1, e2, e3, e4]
  have hgc : 0 < g * c := by omega
  constructor
  · refine Nat.eq_of_mul_eq_mul_left hgc ?_
    have : g * c * a' = a * c := by rw [ha]; grind
    rw [this, h1, hs, hg]
    grind
  · refine Nat.eq_of_mul_eq_mul_left hgc ?_
    have : g * c * b' = b * c := by rw [hb]; grind
    rw [this, h2, hg]
    have : d * d = h * d' * d := by rw [← hd']
    rw [this]; grind
theorem low_share {re im F G N : Int} {k : Nat} (h0 : 0 ≤ re) (r : FacR re im F G N k) (hN : 1 ≤ N) :
    (F * F + G * G).tdiv ((Nat.gcd (F * F + G * G).toNat (N * N).toNat : Nat) : Int) = (shNum re im).tdiv (shBy re im) ∧ (N * N).tdiv ((Nat.gcd (F * F + G * G).toNat (N * N).toNat : Nat) : Int) = (facDen re im).tdiv (shBy re im) := by
  have hp := den_pos (im := im) h0
  have hA : 0 ≤ F * F + G * G := by have := sq_nn F; have := sq_nn G; omega
  have hB : 0 ≤ N * N := sq_nn N
  have hS := shNum_nn re im
  obtain ⟨p, r1, r2, r3⟩ := r
  have e := fac_sq (re := re) (im := im)
  have e1 : (F * F + G * G) * ((k * k : Nat) : Int) = shNum re im * facDen re im := by
    rw [← e, r1, r2, Int.natCast_mul]; grind
  have e2 : (N * N) * ((k * k : Nat) : Int) = facDen re im * facDen re im := by
    rw [r3, Int.natCast_mul]; grind
  rw [Int.tdiv_eq_ediv_of_nonneg hA, Int.tdiv_eq_ediv_of_nonneg hB, Int.tdiv_eq_ediv_of_nonneg hS, Int.tdiv_eq_ediv_of_nonneg (show 0 ≤ facDen re im by omega)]
  unfold shBy
  generalize F * F + G * G = A at *
  generalize N * N = B at *
  generalize facDen re im = D at *
  generalize shNum re im = S at *
  obtain ⟨a, rfl⟩ := Int.eq_ofNat_of_zero_le hA
  obtain ⟨b, rfl⟩ := Int.eq_ofNat_of_zero_le hB
  obtain ⟨s, rfl⟩ := Int.eq_ofNat_of_zero_le hS
  obtain ⟨d, rfl⟩ := Int.eq_ofNat_of_zero_le (show 0 ≤ D by omega)
  simp only [Int.toNat_natCast]
  have e1' : a * (k * k) = s * d := by exact_mod_cast e1
  have e2' : b * (k * k) = d * d := by exact_mod_cast e2
  obtain ⟨q1, q2⟩ := low_scale (Nat.mul_pos p p) (show 0 < d by omega) e1' e2'
  constructor
  · exact_mod_cast q1
  · exact_mod_cast q2
/-- The share: at most the whole, and the whole only of an impedance without a real part. -/
theorem share_whole {re im : Int} (h0 : 0 ≤ re) : (shNum re im).tdiv (shBy re im) ≤ (facDen re im).tdiv (shBy re im) ∧ ((shNum re im).tdiv (shBy re im) = (facDen re im).tdiv (shBy re im) ↔ re = 0) := by
  have hp := den_pos (im := im) h0
  have hk := shBy_pos (im := im) h0
  have hS := shNum_nn re im
  have d1 : ((shBy re im : Nat) : Int) ∣ shNum re im := by
    rw [Int.ofNat_dvd_left, show (shNum re im).natAbs = (shNum re im).toNat by omega]; exact Nat.gcd_dvd_left _ _
  have d2 : ((shBy re im : Nat) : Int) ∣ facDen re im := by
    rw [Int.ofNat_dvd_left, show (facDen re im).natAbs = (facDen re im).toNat by omega]; exact Nat.gcd_dvd_right _ _
  have e1 := Int.tdiv_mul_cancel d1
  have e2 := Int.tdiv_mul_cancel d2
  have e3 := sh_den (re := re) (im := im)
  generalize (shNum re im).tdiv (shBy re im) = s at *
  generalize (facDen re im).tdiv (shBy re im) = d at *
  refine ⟨le_of_mul hk (by omega), fun q => ?_, fun q => ?_⟩
  · rw [q] at e1; omega
  · have : s * (shBy re im : Int) = d * (shBy re im : Int) := by omega
    exact Int.eq_of_mul_eq_mul_right (by omega) this
theorem ag_le {e p num den : Int} (he : 0 ≤ e) (hp : 0 ≤ p) (hp2 : p ≤ 1000) (hn : 0 ≤ num) (hd : 1 ≤ den) (hnd : num ≤ den) : 0 ≤ agLo e p num den ∧ agHi e p num den ≤ e := by
  have a := Int.mul_nonneg he hp
  have b := Int.mul_le_mul_of_nonneg_left hp2 he
  have c := Int.mul_nonneg a hn
  have d := Int.mul_le_mul b hnd hn (show 0 ≤ e * 1000 by omega)
  refine ⟨Int.ediv_nonneg c (by omega), ?_⟩
  have h : e * p * num + 1000 * den - 1 < (e + 1) * (1000 * den) := by
    have : (e + 1) * (1000 * den) = e * 1000 * den + 1000 * den := by grind
    omega
  have := Int.ediv_lt_of_lt_mul (show 0 < 1000 * den by omega) h
  unfold agHi
  omega
theorem ag_lh {e p q num den : Int} (he : 0 ≤ e) (hp : 0 ≤ p) (hpq : p ≤ q) (hn : 0 ≤ num) (hd : 1 ≤ den) : agLo e p num den ≤ agHi e q num den := by
  have a := Int.mul_le_mul_of_nonneg_left hpq he
  have b := Int.mul_le_mul_of_nonneg_right a hn
  unfold agLo agHi
  exact Int.ediv_le_ediv (by omega) (by omega)
theorem ag_one (e p : Int) : agLo e p 1 1 = arrLo e p ∧ agHi e p 1 1 = arrHi e p := by
  unfold agLo agHi arrLo arrHi
  rw [Int.mul_one]
  constructor
  · rfl
  · congr 1; omega
end Go.Fly
end
section
/- The laws on what is heard and on the ground; layers that are split: what they are handed. -/
namespace Go.Fly
open Go
theorem inK_u16 (n : Int) : inK .u16 n ↔ 0 ≤ n ∧ n ≤ 65535 := by simp [inK, IntKind.min, IntKind.max, IntKind.bits, IntKind.signed]
/-- Pairs of numbers of 32 bits. -/
def IsU (n : Nat) (get : Nat → List V) : Prop := n ≤ 9223372036854775807 ∧ ∀ i, i < n → get i = [.int .u32 (cell get i 0), .int .u32 (cell get i 1)] ∧ (0 ≤ cell get i 0 ∧ cell get i 0 ≤ 4294967295) ∧ 0 ≤ cell get i 1 ∧ cell get i 1 ≤ 4294967295
theorem IsU.pu {n : Nat} {get : Nat → List V} (h : IsU n get) : Pu (.sl n 2 get) := pu_sl.2 fun i hi v hv => by
  rw [(h.2 i hi).1] at hv
  simp only [List.mem_cons, List.not_mem_nil, or_false] at hv
  rcases hv with rfl | rfl <;> exact .int _ _
theorem w16 : (16 < 64 ∧ IntKind.signed .i64 = true) = True := eq_true ⟨by decide, rfl⟩
theorem w32 : (32 < 64 ∧ IntKind.signed .i64 = true) = True := eq_true ⟨by decide, rfl⟩
theorem iteT {α : Type} {x y : α} : (if True then x else y) = x := if_pos trivial
def airExplC : Contract := fun _ args =>
  match args with
  | [.sl n sz get, .agg [.int .i64 a, .int .i64 b, .int .i64 c, .int .i64 d, .int .i64 e, .int .i64 f], .sl m szm x] => ⟨sz = 5 ∧ IsAir n get ∧ szm = 2 ∧ IsU m x, .bool true, none⟩
  | _ => ⟨False, .top, none⟩
def airEchoC : Contract := fun _ args =>
  match args with
  | [.sl n sz get, .agg [.int .i64 a, .int .i64 b, .int .i64 c, .int .i64 d, .int .i64 e, .int .i64 f], .agg [.int .u16 u, .int .u16 v, .int .u16 w]] => ⟨sz = 5 ∧ IsAir n get ∧ (0 ≤ u ∧ u ≤ 65535) ∧ (0 ≤ v ∧ v ≤ 65535) ∧ 0 ≤ w ∧ w ≤ 65535, .bool true, none⟩
  | _ => ⟨False, .top, none⟩
theorem onesN1 {a : Int} : ∀ v ∈ [V.int .i64 a], (Pu v ∨ isMsl v = true) ∧ oneC v = true := fun v hv => by
  rw [List.mem_singleton] at hv; subst hv; exact ⟨.inl (.int _ _), rfl⟩
theorem onesN2i {a b : Int} : ∀ v ∈ [V.int .i64 a, V.int .i64 b], (Pu v ∨ isMsl v = true) ∧ oneC v = true := fun v hv => by
  simp only [List.mem_cons, List.not_mem_nil, or_false] at hv
  rcases hv with rfl | rfl
  · exact ⟨.inl (.int _ _), rfl⟩
  · exact ⟨.inl (.int _ _), rfl⟩
def ownListMC : Contract := fun rl args =>
  match args with
  | [.sl n sz get] => ⟨sz = 2 ∧ IsIv n get ∧ n ≤ 1000000, .msl rl 0 n, some (.arr n 2 get)⟩
  | _ => ⟨False, .top, none⟩
attribute [go_sem] ownListMC airExplC airEchoC
end Go.Fly
end
