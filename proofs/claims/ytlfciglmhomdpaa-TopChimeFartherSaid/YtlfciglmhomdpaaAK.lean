/- Part of a proof: an evaluator of the model's code by abstract values, and plain laws for it. No conditions. -/
import Derived.Test.YtlfciglmhomdpaaAJ
set_option linter.unusedSimpArgs false
set_option linter.unusedVariables false
/- What lets sound pass: steps, transmittances, what arrives, what was emitted. -/
namespace Go.Fly
open Go

/-- The greatest number whose square is at most another one. -/
def rtN (x : Nat) : Nat → Nat
  | 0 => 0
  | n + 1 => if (n + 1) * (n + 1) ≤ x then n + 1 else rtN x n
theorem rtN_sq (x : Nat) : ∀ n, rtN x n * rtN x n ≤ x
  | 0 => by simp [rtN]
  | n + 1 => by
    unfold rtN
    split
    · assumption
    · exact rtN_sq x n
theorem rtN_max (x : Nat) : ∀ (n k : Nat), k ≤ n → k * k ≤ x → k ≤ rtN x n
  | 0, k, h, _ => by simpa [rtN] using h
  | n + 1, k, h, hk => by
    unfold rtN
    split
    · exact h
    · rename_i hn
      refine rtN_max x n k ?_ hk
      rcases Nat.lt_or_ge n k with e | e
      · obtain rfl : k = n + 1 := by omega
        exact absurd hk hn
      · exact e
theorem rtN_up (x n : Nat) (h : x ≤ n) : x < (rtN x n + 1) * (rtN x n + 1) := by
  rcases Nat.lt_or_ge x ((rtN x n + 1) * (rtN x n + 1)) with e | e
  · exact e
  · have h1 : rtN x n + 1 ≤ x := Nat.le_trans (Nat.le_mul_of_pos_left _ (by omega)) e
    have := rtN_max x n (rtN x n + 1) (by omega) e
    omega
theorem rtN_eq {x n k : Nat} (h : x ≤ n) (h1 : k * k ≤ x) (h2 : x < (k + 1) * (k + 1)) : rtN x n = k := by
  have e1 : k ≤ x := by
    rcases Nat.eq_zero_or_pos k with e | e
    · omega
    · exact Nat.le_trans (Nat.le_mul_of_pos_left _ e) h1
  have a := rtN_max x n k (by omega) h1
  have b := rtN_sq x n
  rcases Nat.lt_or_ge k (rtN x n) with e | e
  · have : (k + 1) * (k + 1) ≤ rtN x n * rtN x n := Nat.mul_le_mul e e
    omega
  · omega

/-- The root of a quotient, rounded down, and up. -/
def rootE (square times : Int) : Int := rtN (square.toNat / times.toNat) (square.toNat / times.toNat)
def rootUp (square times : Int) : Int := if rootE square times * rootE square times * times < square then rootE square times + 1 else rootE square times

theorem rootE_nonneg (s t : Int) : 0 ≤ rootE s t := Int.natCast_nonneg _
theorem rootE_sq {s t : Int} (hs : 0 ≤ s) (ht : 0 < t) : rootE s t * rootE s t * t ≤ s := by
  obtain ⟨S, rfl⟩ := Int.eq_ofNat_of_zero_le hs
  obtain ⟨T, rfl⟩ := Int.eq_ofNat_of_zero_le (Int.le_of_lt ht)
  have hT : 0 < T := by omega
  unfold rootE
  simp only [Int.toNat_natCast]
  have h := rtN_sq (S / T) (S / T)
  have := (Nat.le_div_iff_mul_le hT).1 h
  exact_mod_cast this
theorem rootE_up {s t : Int} (hs : 0 ≤ s) (ht : 0 < t) : s < (rootE s t + 1) * (rootE s t + 1) * t := by
  obtain ⟨S, rfl⟩ := Int.eq_ofNat_of_zero_le hs
  obtain ⟨T, rfl⟩ := Int.eq_ofNat_of_zero_le (Int.le_of_lt ht)
  have hT : 0 < T := by omega
  unfold rootE
  simp only [Int.toNat_natCast]
  have h := rtN_up (S / T) (S / T) (Nat.le_refl _)
  have := (Nat.div_lt_iff_lt_mul hT).1 h
  exact_mod_cast this
/-- A number that fits is the root. -/
theorem rootE_eq {s t : Int} {n : Nat} (hs : 0 ≤ s) (ht : 0 < t) (h1 : (n : Int) * n * t ≤ s) (h2 : s < ((n : Int) + 1) * (n + 1) * t) : rootE s t = n := by
  obtain ⟨S, rfl⟩ := Int.eq_ofNat_of_zero_le hs
  obtain ⟨T, rfl⟩ := Int.eq_ofNat_of_zero_le (Int.le_of_lt ht)
  have hT : 0 < T := by omega
  unfold rootE
  simp only [Int.toNat_natCast]
  have e1 : n * n ≤ S / T := (Nat.le_div_iff_mul_le hT).2 (by exact_mod_cast h1)
  have e2 : S / T < (n + 1) * (n + 1) := (Nat.div_lt_iff_lt_mul hT).2 (by exact_mod_cast h2)
  rw [rtN_eq (Nat.le_refl _) e1 e2]

/-- The bottom of a layer, and its top. -/
def botE (get : Nat → List V) : Nat → Int
  | 0 => 0
  | i + 1 => botE get i + cell get i 0
def topE (n : Nat) (get : Nat → List V) (i : Nat) : Int := if (i : Int) = (n : Int) - 1 then 1099511627776 else botE get i + cell get i 0
def overE (bot top lo hi : Int) : Int := max 0 (min hi top - max lo bot)
/-- The layer at a height. -/
def atE (n : Nat) (get : Nat → List V) (h : Int) : Int := idxF (fun i => decide (h < topE n get i)) 0 n
def partE (n : Nat) (get : Nat → List V) (z0 z1 flat : Int) (i : Nat) : Int :=
  if z1 - z0 = 0 then (if (i : Int) = atE n get flat then 1 else 0) else overE (botE get i) (topE n get i) z0 z1
def byE (z0 z1 : Int) : Int := if z1 - z0 = 0 then 1 else z1 - z0
def stepLo (n : Nat) (get : Nat → List V) (sq z0 z1 flat : Int) (i : Nat) : Int := rootE (sq * partE n get z0 z1 flat i * partE n get z0 z1 flat i) (byE z0 z1 * byE z0 z1 * 100 * 100)
def stepHi (n : Nat) (get : Nat → List V) (sq z0 z1 flat : Int) (i : Nat) : Int := rootUp (sq * partE n get z0 z1 flat i * partE n get z0 z1 flat i) (byE z0 z1 * byE z0 z1 * 100 * 100)

/-- What is left after some steps, rounded down, and up. -/
def downE (p : Int) : Nat → Int → Int
  | 0, x => x
  | k + 1, x => downE p k (x * p / 1000)
def upE (p : Int) : Nat → Int → Int
  | 0, x => x
  | k + 1, x => upE p k ((x * p + 999) / 1000)
/-- Through the first layers. -/
def passLo (get : Nat → List V) (st : Nat → Int) (b : Nat) : Nat → Int
  | 0 => 1000
  | i + 1 => downE (cell (inG get i 4) b 0) (st i).toNat (passLo get st b i)
def passHi (get : Nat → List V) (st : Nat → Int) (b : Nat) : Nat → Int
  | 0 => 1000
  | i + 1 => upE (cell (inG get i 4) b 1) (st i).toNat (passHi get st b i)

theorem down_bd {p : Int} (h0 : 0 ≤ p) (h1 : p ≤ 1000) : ∀ {k : Nat} {x : Int}, 0 ≤ x → 0 ≤ downE p k x ∧ downE p k x ≤ x
  | 0, x, h => ⟨h, Int.le_refl _⟩
  | k + 1, x, h => by
    have e1 := Int.mul_nonneg h h0
    have e2 := Int.mul_le_mul_of_nonneg_left h1 h
    have := down_bd h0 h1 (k := k) (x := x * p / 1000) (by omega)
    unfold downE
    omega
theorem up_bd {p : Int} (h0 : 0 ≤ p) (h1 : p ≤ 1000) : ∀ {k : Nat} {x : Int}, 0 ≤ x → 0 ≤ upE p k x ∧ upE p k x ≤ x
  | 0, x, h => ⟨h, Int.le_refl _⟩
  | k + 1, x, h => by
    have e1 := Int.mul_nonneg h h0
    have e2 := Int.mul_le_mul_of_nonneg_left h1 h
    have := up_bd h0 h1 (k := k) (x := (x * p + 999) / 1000) (by omega)
    unfold upE
    omega
theorem down_mono {p q : Int} (h0 : 0 ≤ p) (h1 : p ≤ q) : ∀ {k : Nat} {x y : Int}, 0 ≤ x → x ≤ y → downE p k x ≤ downE q k y
  | 0, x, y, _, h => h
  | k + 1, x, y, hx, h => by
    have e1 := Int.mul_le_mul h h1 h0 (by omega : 0 ≤ y)
    have e0 := Int.mul_nonneg hx h0
    unfold downE
    exact down_mono h0 h1 (by omega) (by omega)
theorem up_mono {p q : Int} (h0 : 0 ≤ p) (h1 : p ≤ q) : ∀ {k : Nat} {x y : Int}, 0 ≤ x → x ≤ y → upE p k x ≤ upE q k y
  | 0, x, y, _, h => h
  | k + 1, x, y, hx, h => by
    have e1 := Int.mul_le_mul h h1 h0 (by omega : 0 ≤ y)
    have e0 := Int.mul_nonneg hx h0
    unfold upE
    exact up_mono h0 h1 (by omega) (by omega)
theorem down_up {p : Int} (h0 : 0 ≤ p) : ∀ {k : Nat} {x : Int}, 0 ≤ x → downE p k x ≤ upE p k x
  | 0, x, _ => Int.le_refl _
  | k + 1, x, hx => by
    have e0 := Int.mul_nonneg hx h0
    unfold downE upE
    have a := down_mono h0 (Int.le_refl p) (k := k) (x := x * p / 1000) (y := (x * p + 999) / 1000) (by omega) (by omega)
    have b := down_up h0 (k := k) (x := (x * p + 999) / 1000) (by omega)
    omega
/-- More steps let less pass. -/
theorem down_le {p : Int} (h0 : 0 ≤ p) (h1 : p ≤ 1000) : ∀ {k j : Nat} {x : Int}, 0 ≤ x → k ≤ j → downE p j x ≤ downE p k x
  | 0, j, x, hx, _ => (down_bd h0 h1 hx).2
  | k + 1, 0, x, _, h => by omega
  | k + 1, j + 1, x, hx, h => by
    have e0 := Int.mul_nonneg hx h0
    unfold downE
    exact down_le h0 h1 (by omega) (by omega)
theorem up_le {p : Int} (h0 : 0 ≤ p) (h1 : p ≤ 1000) : ∀ {k j : Nat} {x : Int}, 0 ≤ x → k ≤ j → upE p j x ≤ upE p k x
  | 0, j, x, hx, _ => (up_bd h0 h1 hx).2
  | k + 1, 0, x, _, h => by omega
  | k + 1, j + 1, x, hx, h => by
    have e0 := Int.mul_nonneg hx h0
    unfold upE
    exact up_le h0 h1 (by omega) (by omega)

theorem down_succ {p : Int} : ∀ {k : Nat} {x : Int}, downE p (k + 1) x = downE p k x * p / 1000
  | 0, x => rfl
  | k + 1, x => by
    have := down_succ (p := p) (k := k) (x := x * p / 1000)
    show downE p (k + 1) (x * p / 1000) = downE p k (x * p / 1000) * p / 1000
    exact this
theorem up_succ {p : Int} : ∀ {k : Nat} {x : Int}, upE p (k + 1) x = (upE p k x * p + 999) / 1000
  | 0, x => rfl
  | k + 1, x => by
    have := up_succ (p := p) (k := k) (x := (x * p + 999) / 1000)
    show upE p (k + 1) ((x * p + 999) / 1000) = (upE p k ((x * p + 999) / 1000) * p + 999) / 1000
    exact this
theorem pass_bd {get : Nat → List V} {hl hh : Nat → Int} {b : Nat} : ∀ {n : Nat}, (∀ i, i < n → 0 ≤ cell (inG get i 4) b 0 ∧ cell (inG get i 4) b 0 ≤ 1000 ∧ 0 ≤ cell (inG get i 4) b 1 ∧ cell (inG get i 4) b 1 ≤ 1000) →
    (0 ≤ passLo get hl b n ∧ passLo get hl b n ≤ 1000) ∧ 0 ≤ passHi get hh b n ∧ passHi get hh b n ≤ 1000
  | 0, _ => by simp [passLo, passHi]
  | n + 1, h => by
    have ih := pass_bd (hl := hl) (hh := hh) (n := n) fun i hi => h i (by omega)
    have hn := h n (by omega)
    have a := down_bd hn.1 hn.2.1 (k := (hl n).toNat) ih.1.1
    have c := up_bd hn.2.2.1 hn.2.2.2 (k := (hh n).toNat) ih.2.1
    simp only [passLo, passHi]
    omega

def arrLo (e pl : Int) : Int := e * pl / 1000
def arrHi (e ph : Int) : Int := (e * ph + 999) / 1000
/-- What was emitted, at least and at most. -/
def emLo (lo ph : Int) : Int := if 0 < ph then (lo * 1000 + ph - 1) / ph else if 0 < lo then 10000000000001 else 0
def emHi (hi pl : Int) : Int := if 0 < pl then min 10000000000000 (hi * 1000 / pl) else 10000000000000

theorem arr_bd {e pl ph : Int} (he : 0 ≤ e) (h0 : 0 ≤ pl) (h1 : pl ≤ ph) (h2 : ph ≤ 1000) : 0 ≤ arrLo e pl ∧ arrLo e pl ≤ arrHi e ph ∧ arrHi e ph ≤ e := by
  have a := Int.mul_nonneg he h0
  have b := Int.mul_le_mul_of_nonneg_left h1 he
  have c := Int.mul_le_mul_of_nonneg_left h2 he
  unfold arrLo arrHi
  omega
theorem em_bd {e pl ph : Int} (he : 0 ≤ e) (he2 : e ≤ 10000000000000) (h0 : 0 ≤ pl) (h1 : pl ≤ ph) (h2 : ph ≤ 1000) : emLo (arrLo e pl) ph ≤ e ∧ e ≤ emHi (arrHi e ph) pl := by
  have a := Int.mul_nonneg he h0
  have b := Int.mul_le_mul_of_nonneg_left h1 he
  refine ⟨?_, ?_⟩
  · unfold emLo
    split
    · rename_i hp
      have : arrLo e pl * 1000 ≤ e * ph := by unfold arrLo; omega
      refine Int.le_of_lt_add_one (Int.ediv_lt_of_lt_mul hp ?_)
      rw [Int.add_mul]
      omega
    · split
      · rename_i hp hl
        have : pl = 0 := by omega
        subst this
        simp [arrLo] at hl
      · exact he
  · unfold emHi
    split
    · rename_i hp
      have : e * pl ≤ arrHi e ph * 1000 := by unfold arrHi; omega
      have := (Int.le_ediv_iff_mul_le hp).2 this
      omega
    · exact he2
end Go.Fly
