/- Part of a proof: an evaluator of the model's code by abstract values, and plain laws for it. No conditions. -/
import Derived.Test.YtlfciglmhomdpaaAG
import Derived.Test.YtlfciglmhomdpaaAH
set_option linter.unusedSimpArgs false
set_option linter.unusedVariables false
/- What sources send: emissions, sectors, bands; levels. -/
namespace Go.Fly
open Go

theorem tdiv_nonneg_eq {a b : Int} (h : 0 ≤ a) : a.tdiv b = a / b := Int.tdiv_eq_ediv_of_nonneg h
theorem mul_le_of {a b A B : Int} (h0 : 0 ≤ a) (h1 : a ≤ A) (h2 : 0 ≤ b) (h3 : b ≤ B) : 0 ≤ a * b ∧ a * b ≤ A * B :=
  ⟨Int.mul_nonneg h0 h2, Int.mul_le_mul h1 h3 h2 (by omega)⟩
theorem mul_abs_le {a b A B : Int} (h0 : -A ≤ a) (h1 : a ≤ A) (h2 : -B ≤ b) (h3 : b ≤ B) : -(A * B) ≤ a * b ∧ a * b ≤ A * B := by
  have hA : 0 ≤ A := by omega
  have hB : 0 ≤ B := by omega
  rcases Int.le_total 0 a with ha | ha <;> rcases Int.le_total 0 b with hb | hb
  · have := mul_le_of ha h1 hb h3
    have := Int.mul_nonneg hA hB
    omega
  · have := mul_le_of ha h1 (show 0 ≤ -b by omega) (show -b ≤ B by omega)
    rw [Int.mul_neg] at this
    omega
  · have := mul_le_of (show 0 ≤ -a by omega) (show -a ≤ A by omega) hb h3
    rw [Int.neg_mul] at this
    omega
  · have := mul_le_of (show 0 ≤ -a by omega) (show -a ≤ A by omega) (show 0 ≤ -b by omega) (show -b ≤ B by omega)
    rw [Int.neg_mul_neg] at this
    omega

/-- The quotient that is rounded down. -/
theorem floor_eq {num den : Int} (h : 0 < den) : (if num.tdiv den * den > num then num.tdiv den - 1 else num.tdiv den) = num / den := by
  have h1 := Int.mul_tdiv_add_tmod num den
  have h2 := Int.mul_ediv_add_emod num den
  have h3 := Int.emod_nonneg num (show den ≠ 0 by omega)
  have h4 := Int.emod_lt_of_pos num h
  rw [Int.mul_comm] at h1
  rcases Int.le_total 0 num with hn | hn
  · rw [Int.tdiv_eq_ediv_of_nonneg hn]
    rw [Int.mul_comm] at h2
    rw [if_neg (by omega)]
  · have h5 : num.tmod den ≤ 0 := by
      have := Int.tmod_nonneg den (show 0 ≤ -num by omega)
      rw [Int.neg_tmod] at this
      omega
    have h6 : -den < num.tmod den := by
      have := Int.tmod_lt_of_pos (-num) h
      rw [Int.neg_tmod] at this
      omega
    by_cases e : num.tmod den = 0
    · have h7 : num.tdiv den * den = num := by omega
      rw [if_neg (by omega)]
      have : num / den = num.tdiv den := by
        conv => lhs; rw [← h7]
        exact Int.mul_ediv_cancel _ (by omega)
      exact this.symm
    · rw [if_pos (by omega)]
      have h8 : num = (num.tdiv den - 1) * den + (num.tmod den + den) := by rw [Int.sub_mul]; omega
      conv => rhs; rw [h8, Int.add_comm, Int.add_mul_ediv_right _ _ (by omega : den ≠ 0), Int.ediv_eq_zero_of_lt (by omega) (by omega)]
      omega

def reachN (g : Nat → Int) (sq : Int) : Nat → Nat
  | 0 => 0
  | i + 1 => if g i ≤ sq then i else reachN g sq i
theorem reachN_lt {g : Nat → Int} {sq : Int} : ∀ {n : Nat}, 0 < n → reachN g sq n < n
  | 0, h => by omega
  | n + 1, _ => by
    unfold reachN
    split
    · omega
    · rcases Nat.eq_zero_or_pos n with e | e
      · subst e; simp [reachN]
      · have := reachN_lt (g := g) (sq := sq) e; omega

def idxF (p : Nat → Bool) : Nat → Nat → Int
  | i, 0 => -1
  | i, k + 1 => if p i = true then i else idxF p (i + 1) k
theorem idxF_step {p : Nat → Bool} {i n : Nat} (h : i < n) : idxF p i (n - i) = if p i = true then (i : Int) else idxF p (i + 1) (n - (i + 1)) := by
  rw [show n - i = (n - (i + 1)) + 1 by omega]; rfl
theorem idxF_end {p : Nat → Bool} {i n : Nat} (h : ¬ i < n) : idxF p i (n - i) = -1 := by
  rw [show n - i = 0 by omega]; rfl
theorem idxF_spec {p : Nat → Bool} : ∀ {k i : Nat}, idxF p i k = -1 ∨ ∃ j : Nat, i ≤ j ∧ j < i + k ∧ idxF p i k = j ∧ p j = true ∧ ∀ j', i ≤ j' → j' < j → p j' = false
  | 0, i => .inl rfl
  | k + 1, i => by
    unfold idxF
    split
    · rename_i h; exact .inr ⟨i, by omega, by omega, rfl, h, fun j' h1 h2 => by omega⟩
    · rename_i h
      rcases idxF_spec (p := p) (k := k) (i := i + 1) with q | ⟨j, q1, q2, q3, q4, q5⟩
      · exact .inl q
      · refine .inr ⟨j, by omega, by omega, q3, q4, fun j' h1 h2 => ?_⟩
        by_cases e : j' = i
        · subst e; simpa using h
        · exact q5 j' (by omega) h2

def betweenE (a b part whole : Int) : Int := a + (b - a) * part / whole
def emE (nq : Nat) (gq : Nat → List V) (m : Nat) (gt : Nat → List V) (power sq : Int) : Int :=
  let r := reachN (intAt gq) sq nq
  let i := idxF (fun j => decide (power ≤ cell gt j 0)) 0 m
  if i < 0 then intAt (inG gt (m - 1) 1) r
  else if i = 0 ∨ cell gt i.toNat 0 = power then intAt (inG gt i.toNat 1) r
  else betweenE (intAt (inG gt (i.toNat - 1) 1) r) (intAt (inG gt i.toNat 1) r) (power - cell gt (i.toNat - 1) 0) (cell gt i.toNat 0 - cell gt (i.toNat - 1) 0)

/-- What lies between two numbers, at a part of the way. -/
theorem between_bd {a b part whole A B : Int} (h1 : 0 ≤ part) (h2 : part ≤ whole) (h3 : 0 < whole) (ha : A ≤ a ∧ a ≤ B) (hb : A ≤ b ∧ b ≤ B) : A ≤ betweenE a b part whole ∧ betweenE a b part whole ≤ B := by
  unfold betweenE
  rcases Int.le_total a b with h | h
  · have e1 : 0 ≤ (b - a) * part := Int.mul_nonneg (by omega) h1
    have e2 : (b - a) * part ≤ (b - a) * whole := Int.mul_le_mul_of_nonneg_left h2 (by omega)
    have e3 : 0 ≤ (b - a) * part / whole := Int.ediv_nonneg e1 (by omega)
    have e4 : (b - a) * part / whole ≤ b - a := by
      have := Int.ediv_le_ediv h3 e2
      rwa [Int.mul_ediv_cancel _ (by omega : whole ≠ 0)] at this
    omega
  · have e1 : (b - a) * part ≤ 0 := Int.mul_nonpos_of_nonpos_of_nonneg (by omega) h1
    have e2 : (b - a) * whole ≤ (b - a) * part := Int.mul_le_mul_of_nonpos_left (by omega) h2
    have e3 : (b - a) * part / whole ≤ 0 := by
      have := Int.ediv_le_ediv h3 e1
      simpa using this
    have e4 : b - a ≤ (b - a) * part / whole := by
      have := Int.ediv_le_ediv h3 e2
      rwa [Int.mul_ediv_cancel _ (by omega : whole ≠ 0)] at this
    omega

theorem setOk {s : List UInt8} {ns : Nat} {gs : Nat → List V} {d : Nat → Int} {side : Int} {nq : Nat} {gq : Nat → List V} {m : Nat} {gt : Nat → List V} (h : TypeOk s ns gs d side nq gq m gt) {i : Nat} (hi : i < m) :
    (1 ≤ cell gt i 0 ∧ cell gt i 0 ≤ 100) ∧ (0 < i → cell gt (i - 1) 0 < cell gt i 0) ∧ inN gt i 1 = nq ∧ (∀ k, k < nq → 0 ≤ intAt (inG gt i 1) k ∧ intAt (inG gt i 1) k ≤ 100000000) ∧ (∀ k, k < nq → enBad gt i k = false) := by
  obtain ⟨h1, h2⟩ := setE_zero.1 (h.set i hi)
  obtain ⟨g1, g2, g3, g4⟩ := setE0_zero.1 h1
  exact ⟨g1, g2, g3, fun k hk => g4 k (by omega), fun k hk => h2 k (by omega)⟩
theorem powers_mono {s : List UInt8} {ns : Nat} {gs : Nat → List V} {d : Nat → Int} {side : Int} {nq : Nat} {gq : Nat → List V} {m : Nat} {gt : Nat → List V} (h : TypeOk s ns gs d side nq gq m gt) : ∀ {i : Nat}, i + 1 < m → cell gt i 0 < cell gt (i + 1) 0 :=
  fun {i} hi => by have := (setOk h hi).2.1 (by omega); simpa using this

theorem emE_bd {s : List UInt8} {ns : Nat} {gs : Nat → List V} {d : Nat → Int} {side : Int} {nq : Nat} {gq : Nat → List V} {m : Nat} {gt : Nat → List V} (h : TypeOk s ns gs d side nq gq m gt) (power sq : Int) :
    0 ≤ emE nq gq m gt power sq ∧ emE nq gq m gt power sq ≤ 100000000 := by
  have hq : 0 < nq := (squaresE_zero.1 h.squares).1.1
  have hm := h.cnt
  have hr := reachN_lt (g := intAt gq) (sq := sq) hq
  unfold emE
  simp only
  generalize reachN (intAt gq) sq nq = r at hr ⊢
  rcases idxF_spec (p := fun j => decide (power ≤ cell gt j 0)) (k := m) (i := 0) with e | ⟨j, q1, q2, q3, q4, q5⟩
  · rw [e, if_pos (by decide)]
    exact (setOk h (i := m - 1) (by omega)).2.2.2.1 r hr
  · rw [q3, if_neg (by omega)]
    have hj : j < m := by omega
    split
    · exact (setOk h (i := j) hj).2.2.2.1 r hr
    · rename_i hne
      have hj0 : 0 < j := by
        rcases Nat.eq_zero_or_pos j with e | e
        · exact absurd (.inl (by omega)) hne
        · exact e
      have := q5 (j - 1) (by omega) (by omega)
      simp only [decide_eq_false_iff_not, decide_eq_true_eq] at this q4
      simp only [Int.toNat_natCast] at hne ⊢
      refine between_bd (by omega) (by omega) ?_ ((setOk h (i := j - 1) (by omega)).2.2.2.1 r hr) ((setOk h (i := j) hj).2.2.2.1 r hr)
      have := (setOk h (i := j) hj).2.1 hj0
      omega

def sec : Nat → Int → Int → Int → Int
  | 0, _, _, _ => 0
  | k + 1, t, u, v => if (v < u ∧ 0 ≤ v) ∨ (u = 0 ∧ v = 0) then t else if u ≤ v ∧ 0 < u then t + 1 else sec k (t + 2) v (-u)
theorem sec_bd : ∀ {k : Nat} {t u v : Int}, 0 ≤ t → 0 ≤ sec k t u v ∧ sec k t u v ≤ max 0 (t + 2 * k - 1)
  | 0, t, u, v, h => by simp [sec]; omega
  | k + 1, t, u, v, h => by
    unfold sec
    have := sec_bd (k := k) (t := t + 2) (u := v) (v := -u) (by omega)
    repeat' split
    all_goals omega
def sectorE (hx hy x y : Int) : Int := sec 4 0 (hx * x + hy * y) (hx * y - hy * x)
theorem sectorE_bd (hx hy x y : Int) : 0 ≤ sectorE hx hy x y ∧ sectorE hx hy x y ≤ 7 := by
  have := sec_bd (k := 4) (t := 0) (u := hx * x + hy * y) (v := hx * y - hy * x) (by omega)
  unfold sectorE; omega

/-- What is heard: of a type, a state and a receiver's difference. -/
def heardE (d : Nat → Int) (side : Int) (nq : Nat) (gq : Nat → List V) (m : Nat) (gt : Nat → List V) (hx hy power x y z : Int) : Int :=
  let q0 := x * x + y * y
  let q1 := z * z
  let k := if q0 = 0 ∧ q1 = 0 then 0 else sectorE hx hy x y
  let n := emE nq gq m gt power (q0 + q1) * d k.toNat
  if 4 * q1 < q0 then n * side / 1000000 else n / 1000

def bandE (e n : Int) : Int := e / 1000 * n + e % 1000 * n / 1000
theorem bandE_bd {e n : Int} (he : 0 ≤ e) (hn : 0 ≤ n) : 0 ≤ bandE e n ∧ bandE e n * 1000 ≤ e * n := by
  unfold bandE
  have h1 : 0 ≤ e / 1000 := by omega
  have h2 : 0 ≤ e % 1000 := by omega
  have h3 := Int.mul_nonneg h1 hn
  have h4 := Int.mul_nonneg h2 hn
  have h5 : e * n = (e / 1000) * n * 1000 + (e % 1000) * n := by
    have : e = e / 1000 * 1000 + e % 1000 := by omega
    conv => lhs; rw [this, Int.add_mul, Int.mul_right_comm]
  generalize e / 1000 * n = p at *
  generalize e % 1000 * n = q at *
  omega

theorem sumI_mul {f : Nat → Int} {c : Int} : ∀ {n : Nat}, sumI (fun i => c * f i) n = c * sumI f n
  | 0 => by simp [sumI]
  | n + 1 => by simp only [sumI]; rw [sumI_mul, Int.mul_add]
theorem sumI_mul' {f : Nat → Int} {c : Int} : ∀ {n : Nat}, sumI (fun i => f i * c) n = sumI f n * c
  | 0 => by simp [sumI]
  | n + 1 => by simp only [sumI]; rw [sumI_mul', Int.add_mul]
/-- All but what is left goes by bands. -/
theorem bands_sum {e : Int} {f : Nat → Int} {n : Nat} (he : 0 ≤ e) (hf : ∀ i, i < n → 0 ≤ f i) (hs : sumI f n = 1000) : 0 ≤ sumI (fun i => bandE e (f i)) n ∧ sumI (fun i => bandE e (f i)) n ≤ e := by
  have h1 : sumI (fun _ => 0) n ≤ sumI (fun i => bandE e (f i)) n := sumI_le fun i hi => (bandE_bd he (hf i hi)).1
  have h2 : sumI (fun i => bandE e (f i) * 1000) n ≤ sumI (fun i => e * f i) n := sumI_le fun i hi => (bandE_bd he (hf i hi)).2
  have h3 : sumI (fun _ => (0 : Int)) n = 0 := by
    clear h1 h2 hs hf
    induction n with
    | zero => rfl
    | succ n ih => simp only [sumI]; omega
  rw [sumI_mul, sumI_mul', hs] at h2
  omega
/-- Bands: the first one gets what is left. -/
def bandsE (e : Int) (f : Nat → Int) (n : Nat) (i : Nat) : Int := if i = 0 then e - sumI (fun i => bandE e (f i)) n + bandE e (f 0) else bandE e (f i)

def base10 (r : Int) : Int := match r.toNat with
  | 0 => 10 | 1 => 13 | 2 => 16 | 3 => 20 | 4 => 25 | 5 => 32 | 6 => 40 | 7 => 50 | 8 => 63 | _ => 79
def thrE (l : Int) : Int := base10 (l % 10) * 10 ^ (l / 10).toNat
def levE (e : Int) : Nat → Int → Int
  | 0, k => k
  | n + 1, k => if thrE (k + 1) ≤ e then levE e n (k + 1) else k
def levelE (e : Int) : Int := levE e 121 (-1)
theorem levE_ge (e : Int) : ∀ (n : Nat) (k : Int), k ≤ levE e n k
  | 0, k => Int.le_refl _
  | n + 1, k => by
    unfold levE
    split
    · have := levE_ge e n (k + 1); omega
    · exact Int.le_refl _
theorem levE_mono {e e' : Int} (h : e ≤ e') : ∀ (n : Nat) (k : Int), levE e n k ≤ levE e' n k
  | 0, k => Int.le_refl _
  | n + 1, k => by
    unfold levE
    split
    · rw [if_pos (by omega)]; exact levE_mono h n (k + 1)
    · split
      · have := levE_ge e' n (k + 1); omega
      · exact Int.le_refl _
theorem levelE_mono {e e' : Int} (h : e ≤ e') : levelE e ≤ levelE e' := levE_mono h _ _
end Go.Fly
