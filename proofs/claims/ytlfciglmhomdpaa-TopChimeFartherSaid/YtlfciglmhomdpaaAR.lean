/- Part of a proof: an evaluator of the model's code by abstract values, and plain laws for it. No conditions. -/
import Derived.Test.YtlfciglmhomdpaaAP
import Derived.Test.YtlfciglmhomdpaaAQ
set_option linter.unusedSimpArgs false
set_option linter.unusedVariables false
/- A receiver that is twice as far away; layers that let less pass; energies that are halved. -/
namespace Go.Fly
open Go

/-! ### Roots -/

theorem rtN_mono {x y : Nat} (h : x ≤ y) : rtN x x ≤ rtN y y := by
  have a := rtN_sq x x
  rcases Nat.lt_or_ge (rtN y y) (rtN x x) with e | e
  · have b := rtN_up y y (Nat.le_refl _)
    have : (rtN y y + 1) * (rtN y y + 1) ≤ rtN x x * rtN x x := Nat.mul_le_mul e e
    omega
  · exact e
theorem rootE_mono {s s' t : Int} (h : s ≤ s') : rootE s t ≤ rootE s' t := by
  unfold rootE
  exact_mod_cast rtN_mono (Nat.div_le_div_right (by omega : s.toNat ≤ s'.toNat))
theorem rootE_four {s t : Int} (hs : 0 ≤ s) (ht : 0 ≤ t) : rootE (4 * s) (4 * t) = rootE s t := by
  unfold rootE
  have e1 : (4 * s).toNat = 4 * s.toNat := by omega
  have e2 : (4 * t).toNat = 4 * t.toNat := by omega
  rw [e1, e2, Nat.mul_div_mul_left _ _ (by decide)]
theorem rootUp_four {s t : Int} (hs : 0 ≤ s) (ht : 0 ≤ t) : rootUp (4 * s) (4 * t) = rootUp s t := by
  unfold rootUp
  rw [rootE_four hs ht]
  have e : rootE s t * rootE s t * (4 * t) = 4 * (rootE s t * rootE s t * t) := by rw [Int.mul_left_comm]
  rw [e]
  by_cases h : rootE s t * rootE s t * t < s
  · rw [if_pos h, if_pos (by omega)]
  · rw [if_neg h, if_neg (by omega)]
theorem rootUp_mono {s s' t : Int} (hs : 0 ≤ s) (ht : 0 < t) (h : s ≤ s') : rootUp s t ≤ rootUp s' t := by
  have hm := rootE_mono (t := t) h
  unfold rootUp
  by_cases e : rootE s t = rootE s' t
  · rw [e]
    by_cases h1 : rootE s' t * rootE s' t * t < s
    · rw [if_pos h1, if_pos (by omega)]; omega
    · rw [if_neg h1]; split <;> omega
  · split <;> split <;> omega

/-! ### Steps -/

theorem over_mono {bot top lo hi lo' hi' : Int} (h1 : lo' ≤ lo) (h2 : hi ≤ hi') : overE bot top lo hi ≤ overE bot top lo' hi' := by
  unfold overE; omega
/-- Twice as far in the same direction: four times the square, twice the height. -/
theorem step_far {n : Nat} {get : Nat → List V} {sq c v : Int} (hsq : 0 ≤ sq) (i : Nat) :
    stepLo n get sq (min c (c + v)) (max c (c + v)) c i ≤ stepLo n get (4 * sq) (min c (c + 2 * v)) (max c (c + 2 * v)) c i ∧
    stepHi n get sq (min c (c + v)) (max c (c + v)) c i ≤ stepHi n get (4 * sq) (min c (c + 2 * v)) (max c (c + 2 * v)) c i := by
  unfold stepLo stepHi
  by_cases hv : v = 0
  · subst hv
    have e1 : c + 2 * 0 = c := by omega
    have e2 : c + 0 = c := by omega
    rw [e1, e2]
    generalize partE n get (min c c) (max c c) c i = p
    generalize byE (min c c) (max c c) = b at *
    have hb : byE (min c c) (max c c) = 1 := by unfold byE; rw [if_pos (by omega)]
    have hpp := sq_nn p
    have h1 : sq * p * p ≤ 4 * sq * p * p := by
      rw [Int.mul_assoc, Int.mul_assoc]
      exact Int.mul_le_mul_of_nonneg_right (by omega) hpp
    have h0 : 0 ≤ sq * p * p := by rw [Int.mul_assoc]; exact Int.mul_nonneg hsq hpp
    refine ⟨rootE_mono h1, ?_⟩
    rcases Int.le_total (b * b * 100 * 100) 0 with hb | hb
    · unfold rootUp
      have hbb := sq_nn b
      have e : b * b * 100 * 100 = 0 := by omega
      rw [e]
      have z : ∀ s : Int, rootE s 0 = 0 := fun s => by
        unfold rootE
        simp [rtN]
      rw [z, z]
      simp only [Int.mul_zero]
      split <;> split <;> omega
    · by_cases e : b * b * 100 * 100 = 0
      · unfold rootUp
        rw [e]
        have z : ∀ s : Int, rootE s 0 = 0 := fun s => by
          unfold rootE
          simp [rtN]
        rw [z, z]
        simp only [Int.mul_zero]
        split <;> split <;> omega
      · exact rootUp_mono h0 (by omega) h1
  · have n1 : ¬ max c (c + v) - min c (c + v) = 0 := by omega
    have n2 : ¬ max c (c + 2 * v) - min c (c + 2 * v) = 0 := by omega
    have hb : byE (min c (c + 2 * v)) (max c (c + 2 * v)) = 2 * byE (min c (c + v)) (max c (c + v)) := by
      unfold byE; rw [if_neg n1, if_neg n2]; omega
    have hb1 : 1 ≤ byE (min c (c + v)) (max c (c + v)) := by unfold byE; rw [if_neg n1]; omega
    have hp : partE n get (min c (c + v)) (max c (c + v)) c i ≤ partE n get (min c (c + 2 * v)) (max c (c + 2 * v)) c i := by
      unfold partE; rw [if_neg n1, if_neg n2]; exact over_mono (by omega) (by omega)
    have hp0 : 0 ≤ partE n get (min c (c + v)) (max c (c + v)) c i := (part_bd (by omega)).1
    rw [hb]
    generalize partE n get (min c (c + v)) (max c (c + v)) c i = p at *
    generalize partE n get (min c (c + 2 * v)) (max c (c + 2 * v)) c i = q at *
    generalize byE (min c (c + v)) (max c (c + v)) = b at *
    have hpq : p * p ≤ q * q := Int.mul_le_mul hp hp hp0 (by omega)
    have h0 : 0 ≤ sq * p * p := by rw [Int.mul_assoc]; exact Int.mul_nonneg hsq (sq_nn p)
    have h1 : sq * p * p ≤ sq * q * q := by
      rw [Int.mul_assoc, Int.mul_assoc]
      exact Int.mul_le_mul_of_nonneg_left hpq hsq
    have e1 : 4 * sq * q * q = 4 * (sq * q * q) := by simp only [Int.mul_assoc]
    have e2 : 2 * b * (2 * b) * 100 * 100 = 4 * (b * b * 100 * 100) := by
      have : 2 * b * (2 * b) = 4 * (b * b) := by rw [Int.mul_assoc, Int.mul_left_comm b 2 b, ← Int.mul_assoc]; rfl
      rw [this]; omega
    have hbb : 1 ≤ b * b := by
      have := Int.mul_le_mul hb1 hb1 (by omega) (by omega : 0 ≤ b)
      omega
    rw [e1, e2, rootE_four (by omega) (by omega), rootUp_four (by omega) (by omega)]
    exact ⟨rootE_mono h1, rootUp_mono h0 (by omega) h1⟩
theorem sqE_far (a b c x y z : Int) : sqE a b c (a + 2 * x) (b + 2 * y) (c + 2 * z) = 4 * sqE a b c (a + 1 * x) (b + 1 * y) (c + 1 * z) := by
  unfold sqE
  have e : ∀ p q : Int, p + 2 * q - p = 2 * q := fun p q => by omega
  have e' : ∀ p q : Int, p + 1 * q - p = q := fun p q => by omega
  have f : ∀ q : Int, 2 * q * (2 * q) = 4 * (q * q) := fun q => by rw [Int.mul_assoc, Int.mul_left_comm q 2 q, ← Int.mul_assoc]; rfl
  simp only [e, e', f]
  omega

/-! ### What passes -/

theorem pass_mono {get get' : Nat → List V} {s1 s2 : Nat → Int} {b : Nat} : ∀ {n : Nat}, (∀ i, i < n → 0 ≤ s1 i ∧ s1 i ≤ s2 i) →
    (∀ i, i < n → 0 ≤ cell (inG get' i 4) b 0 ∧ cell (inG get' i 4) b 0 ≤ cell (inG get i 4) b 0 ∧ cell (inG get i 4) b 0 ≤ 1000) →
    0 ≤ passLo get' s2 b n ∧ passLo get' s2 b n ≤ passLo get s1 b n
  | 0, _, _ => by simp [passLo]
  | n + 1, hs, h => by
    have ih := pass_mono (n := n) (fun i hi => hs i (by omega)) (fun i hi => h i (by omega))
    have hn := h n (by omega)
    have hk := hs n (by omega)
    simp only [passLo]
    have a := down_bd hn.1 (by omega : cell (inG get' n 4) b 0 ≤ 1000) (k := (s2 n).toNat) ih.1
    have c := down_le hn.1 (by omega : cell (inG get' n 4) b 0 ≤ 1000) (k := (s1 n).toNat) (j := (s2 n).toNat) ih.1 (by omega)
    have d := down_mono hn.1 hn.2.1 (k := (s1 n).toNat) ih.1 ih.2
    omega
theorem pass_mono' {get get' : Nat → List V} {s1 s2 : Nat → Int} {b : Nat} : ∀ {n : Nat}, (∀ i, i < n → 0 ≤ s1 i ∧ s1 i ≤ s2 i) →
    (∀ i, i < n → 0 ≤ cell (inG get' i 4) b 1 ∧ cell (inG get' i 4) b 1 ≤ cell (inG get i 4) b 1 ∧ cell (inG get i 4) b 1 ≤ 1000) →
    0 ≤ passHi get' s2 b n ∧ passHi get' s2 b n ≤ passHi get s1 b n
  | 0, _, _ => by simp [passHi]
  | n + 1, hs, h => by
    have ih := pass_mono' (n := n) (fun i hi => hs i (by omega)) (fun i hi => h i (by omega))
    have hn := h n (by omega)
    have hk := hs n (by omega)
    simp only [passHi]
    have a := up_bd hn.1 (by omega : cell (inG get' n 4) b 1 ≤ 1000) (k := (s2 n).toNat) ih.1
    have c := up_le hn.1 (by omega : cell (inG get' n 4) b 1 ≤ 1000) (k := (s1 n).toNat) (j := (s2 n).toNat) ih.1 (by omega)
    have d := up_mono hn.1 hn.2.1 (k := (s1 n).toNat) ih.1 ih.2
    omega
/-- Twice as far away, no more passes. -/
theorem p_far {n : Nat} {get : Nat → List V} {a b c x y z : Int} (hok : AirOk n get) (hp : PathOk a b c (a + 1 * x) (b + 1 * y) (c + 1 * z)) {k : Nat} (hk : k < inN get 0 4) :
    pLo n get a b c (a + 2 * x) (b + 2 * y) (c + 2 * z) k ≤ pLo n get a b c (a + 1 * x) (b + 1 * y) (c + 1 * z) k ∧
    pHi n get a b c (a + 2 * x) (b + 2 * y) (c + 2 * z) k ≤ pHi n get a b c (a + 1 * x) (b + 1 * y) (c + 1 * z) k := by
  have hsq := sqE_bd hp
  have hst := fun i => step_bd (n := n) (get := get) (flat := c) hsq (show min c (c + 1 * z) ≤ max c (c + 1 * z) by omega) i
  have hf := fun i => step_far (n := n) (get := get) (c := c) (v := z) hsq.1 i
  have e1 : c + 1 * z = c + z := by omega
  unfold pLo pHi
  rw [sqE_far]
  rw [← e1] at hf
  refine ⟨(pass_mono (fun i hi => ⟨?_, (hf i).2⟩) fun i hi => ?_).2, (pass_mono' (fun i hi => ⟨(hst i).1, (hf i).1⟩) fun i hi => ?_).2⟩
  · have := hst i; omega
  · have := hok.pass i hi k hk; omega
  · have := hok.pass i hi k hk; omega

/-! ### Layers that let less pass -/

theorem bot_congr {get get' : Nat → List V} : ∀ {i : Nat}, (∀ j, j < i → cell get' j 0 = cell get j 0) → botE get' i = botE get i
  | 0, _ => rfl
  | i + 1, h => by simp only [botE]; rw [bot_congr fun j hj => h j (by omega), h i (by omega)]
theorem top_congr {n : Nat} {get get' : Nat → List V} {i : Nat} (h : ∀ j, j ≤ i → cell get' j 0 = cell get j 0) : topE n get' i = topE n get i := by
  unfold topE
  rw [bot_congr fun j hj => h j (by omega), h i (by omega)]
theorem idxF_congr {p q : Nat → Bool} : ∀ {k i : Nat}, (∀ j, i ≤ j → j < i + k → p j = q j) → idxF p i k = idxF q i k
  | 0, i, _ => rfl
  | k + 1, i, h => by
    unfold idxF
    rw [h i (by omega) (by omega), idxF_congr fun j h1 h2 => h j (by omega) (by omega)]
theorem part_congr {n : Nat} {get get' : Nat → List V} {z0 z1 flat : Int} {i : Nat} (h : ∀ j, cell get' j 0 = cell get j 0) : partE n get' z0 z1 flat i = partE n get z0 z1 flat i := by
  unfold partE atE
  rw [bot_congr fun j _ => h j, top_congr fun j _ => h j, idxF_congr (q := fun i => decide (flat < topE n get i)) fun j _ _ => by rw [top_congr fun j _ => h j]]
theorem p_thick {n : Nat} {get get' : Nat → List V} {a b c d e f : Int} (hok : AirOk n get) (hp : PathOk a b c d e f) (h0 : ∀ j, cell get' j 0 = cell get j 0) {k : Nat} (hk : k < inN get 0 4)
    (h1 : ∀ i, i < n → 0 ≤ cell (inG get' i 4) k 0 ∧ cell (inG get' i 4) k 0 ≤ cell (inG get i 4) k 0) (h2 : ∀ i, i < n → 0 ≤ cell (inG get' i 4) k 1 ∧ cell (inG get' i 4) k 1 ≤ cell (inG get i 4) k 1) :
    pLo n get' a b c d e f k ≤ pLo n get a b c d e f k ∧ pHi n get' a b c d e f k ≤ pHi n get a b c d e f k := by
  have hsq := sqE_bd hp
  have hst := fun i => step_bd (n := n) (get := get) (flat := c) hsq (show min c f ≤ max c f by omega) i
  unfold pLo pHi
  have e1 : (fun i => stepHi n get' (sqE a b c d e f) (min c f) (max c f) c i) = fun i => stepHi n get (sqE a b c d e f) (min c f) (max c f) c i := by
    funext i; unfold stepHi; rw [part_congr h0]
  have e2 : (fun i => stepLo n get' (sqE a b c d e f) (min c f) (max c f) c i) = fun i => stepLo n get (sqE a b c d e f) (min c f) (max c f) c i := by
    funext i; unfold stepLo; rw [part_congr h0]
  rw [e1, e2]
  refine ⟨(pass_mono (fun i hi => ⟨?_, Int.le_refl _⟩) fun i hi => ?_).2, (pass_mono' (fun i hi => ⟨(hst i).1, Int.le_refl _⟩) fun i hi => ?_).2⟩
  · have := hst i; omega
  · have := hok.pass i hi k hk; have := h1 i hi; omega
  · have := hok.pass i hi k hk; have := h2 i hi; omega
theorem arr_mono {e e' p p' : Int} (he : 0 ≤ e') (h : e' ≤ e) (hp : 0 ≤ p') (h2 : p' ≤ p) : arrLo e' p' ≤ arrLo e p ∧ arrHi e' p' ≤ arrHi e p := by
  have := Int.mul_le_mul h h2 hp (by omega : 0 ≤ e)
  unfold arrLo arrHi
  omega

/-! ### What is heard -/

theorem sec_two : ∀ {k : Nat} {t u v : Int}, sec k t (2 * u) (2 * v) = sec k t u v
  | 0, t, u, v => rfl
  | k + 1, t, u, v => by
    unfold sec
    have e : -(2 * u) = 2 * -u := by omega
    rw [e, sec_two (k := k)]
    by_cases h1 : (v < u ∧ 0 ≤ v) ∨ (u = 0 ∧ v = 0)
    · rw [if_pos h1, if_pos (by omega)]
    · rw [if_neg h1, if_neg (by omega)]
      by_cases h2 : u ≤ v ∧ 0 < u
      · rw [if_pos h2, if_pos (by omega)]
      · rw [if_neg h2, if_neg (by omega)]
theorem sectorE_two (hx hy x y : Int) : sectorE hx hy (2 * x) (2 * y) = sectorE hx hy x y := by
  unfold sectorE
  have e1 : hx * (2 * x) + hy * (2 * y) = 2 * (hx * x + hy * y) := by
    rw [Int.mul_left_comm hx 2 x, Int.mul_left_comm hy 2 y]; omega
  have e2 : hx * (2 * y) - hy * (2 * x) = 2 * (hx * y - hy * x) := by
    rw [Int.mul_left_comm hx 2 y, Int.mul_left_comm hy 2 x]; omega
  rw [e1, e2, sec_two]
theorem reach_mono {g : Nat → Int} {s s' : Int} (h : s ≤ s') : ∀ {n : Nat}, reachN g s n ≤ reachN g s' n
  | 0 => Nat.le_refl _
  | n + 1 => by
    unfold reachN
    split
    · rw [if_pos (by omega)]; exact Nat.le_refl _
    · have := reach_mono (g := g) h (n := n)
      split
      · rcases Nat.eq_zero_or_pos n with e | e
        · subst e; simp [reachN]
        · have := reachN_lt (g := g) (sq := s) e; omega
      · exact this
theorem between_mono {a b a' b' part whole : Int} (h1 : 0 ≤ part) (h2 : part ≤ whole) (h3 : 0 < whole) (ha : a' ≤ a) (hb : b' ≤ b) : betweenE a' b' part whole ≤ betweenE a b part whole := by
  have key : ∀ a b : Int, betweenE a b part whole = (a * (whole - part) + b * part) / whole := fun a b => by
    unfold betweenE
    have e : a * (whole - part) + b * part = (b - a) * part + a * whole := by
      rw [Int.mul_sub, Int.sub_mul]; omega
    rw [e, Int.add_mul_ediv_right _ _ (by omega)]
    omega
  rw [key, key]
  refine Int.ediv_le_ediv h3 ?_
  have e1 := Int.mul_le_mul_of_nonneg_right ha (by omega : 0 ≤ whole - part)
  have e2 := Int.mul_le_mul_of_nonneg_right hb h1
  omega
/-- Energies that are no greater. -/
theorem emE_le {nq : Nat} {gq : Nat → List V} {m : Nat} {gt gt' : Nat → List V} (hm : 0 < m) (hc : ∀ i, cell gt' i 0 = cell gt i 0) {power sq sq' : Int}
    (hmono : ∀ i, i + 1 < m → cell gt i 0 < cell gt (i + 1) 0) (hle : ∀ i, i < m → intAt (inG gt' i 1) (reachN (intAt gq) sq' nq) ≤ intAt (inG gt i 1) (reachN (intAt gq) sq nq)) :
    emE nq gq m gt' power sq' ≤ emE nq gq m gt power sq := by
  unfold emE
  simp only
  have hi : idxF (fun j => decide (power ≤ cell gt' j 0)) 0 m = idxF (fun j => decide (power ≤ cell gt j 0)) 0 m := idxF_congr fun j _ _ => by rw [hc]
  rw [hi]
  generalize reachN (intAt gq) sq' nq = r' at *
  generalize reachN (intAt gq) sq nq = r at *
  rcases idxF_spec (p := fun j => decide (power ≤ cell gt j 0)) (k := m) (i := 0) with e | ⟨j, q1, q2, q3, q4, q5⟩
  · rw [e, if_pos (by decide), if_pos (by decide)]
    exact hle (m - 1) (by omega)
  · have hj : j < m := by omega
    rw [q3, if_neg (show ¬ (j : Int) < 0 by omega), if_neg (show ¬ (j : Int) < 0 by omega), hc, hc]
    split
    · exact hle j hj
    · rename_i hne
      have hj0 : 0 < j := by
        rcases Nat.eq_zero_or_pos j with e | e
        · exact absurd (.inl (by omega)) hne
        · exact e
      have := q5 (j - 1) (by omega) (by omega)
      simp only [decide_eq_false_iff_not, decide_eq_true_eq] at this q4
      simp only [Int.toNat_natCast] at hne ⊢
      have hlt := hmono (j - 1) (by omega)
      rw [show j - 1 + 1 = j by omega] at hlt
      exact between_mono (by omega) (by omega) (by omega) (hle (j - 1) (by omega)) (hle j hj)
/-- Energies fall with the reach. -/
theorem en_anti {g : Nat → List V} {i n : Nat} (h : ∀ k, k < n → enBad g i k = false) : ∀ {k j : Nat}, k ≤ j → j < n → intAt (inG g i 1) j ≤ intAt (inG g i 1) k := by
  intro k j hkj hj
  induction j with
  | zero => obtain rfl : k = 0 := by omega
            exact Int.le_refl _
  | succ j ih =>
    by_cases e : k = j + 1
    · subst e; exact Int.le_refl _
    · have h1 := ih (by omega) (by omega)
      have h2 := h (j + 1) hj
      unfold enBad at h2
      simp only [Bool.or_eq_false_iff, Bool.and_eq_false_iff, decide_eq_false_iff_not, Nat.add_sub_cancel] at h2
      have h3 := h2.1
      omega
theorem heard_le {d : Nat → Int} {side : Int} {nq : Nat} {gq : Nat → List V} {m : Nat} {gt gt' : Nat → List V} {hx hy p x y z : Int} {t : Int} (ht : t = 1 ∨ t = 2) (hd : ∀ k, k < 8 → 0 ≤ d k) (hs : 0 ≤ side)
    (h : emE nq gq m gt' p (t * x * (t * x) + t * y * (t * y) + t * z * (t * z)) ≤ emE nq gq m gt p (x * x + y * y + z * z)) :
    heardE d side nq gq m gt' hx hy p (t * x) (t * y) (t * z) ≤ heardE d side nq gq m gt hx hy p x y z := by
  unfold heardE
  simp only
  have f : ∀ q : Int, t * q * (t * q) = t * t * (q * q) := fun q => by rw [Int.mul_assoc, Int.mul_left_comm q t q, ← Int.mul_assoc]
  have hs2 : sectorE hx hy (t * x) (t * y) = sectorE hx hy x y := by
    rcases ht with rfl | rfl
    · rw [Int.one_mul, Int.one_mul]
    · exact sectorE_two _ _ _ _
  obtain ⟨A, hA⟩ : ∃ A, A = x * x + y * y := ⟨_, rfl⟩
  obtain ⟨B, hB⟩ : ∃ B, B = z * z := ⟨_, rfl⟩
  have fA : t * x * (t * x) + t * y * (t * y) = t * t * A := by rw [f, f, hA, Int.mul_add]
  have fB : t * z * (t * z) = t * t * B := by rw [f, hB]
  have hk : (if t * t * A = 0 ∧ t * t * B = 0 then (0 : Int) else sectorE hx hy x y) = if A = 0 ∧ B = 0 then 0 else sectorE hx hy x y := by
    rcases ht with rfl | rfl
    · simp
    · by_cases q : A = 0 ∧ B = 0
      · rw [if_pos q, if_pos (by omega)]
      · rw [if_neg q, if_neg (by omega)]
  rw [fA, fB] at h
  rw [hs2, fA, fB, ← hA, ← hB, hk]
  rw [← hA, ← hB] at h
  have hb := sectorE_bd hx hy x y
  have hd' := hd (if A = 0 ∧ B = 0 then (0 : Int) else sectorE hx hy x y).toNat (by split <;> omega)
  have hlt : (4 * (t * t * B) < t * t * A) ↔ 4 * B < A := by rcases ht with rfl | rfl <;> omega
  generalize d (if A = 0 ∧ B = 0 then (0 : Int) else sectorE hx hy x y).toNat = D at *
  generalize emE nq gq m gt' p (t * t * A + t * t * B) = E' at *
  generalize emE nq gq m gt p (A + B) = E at *
  have h1 := Int.mul_le_mul_of_nonneg_right h hd'
  have h2 := Int.mul_le_mul_of_nonneg_right h1 hs
  by_cases q : 4 * B < A
  · rw [if_pos q, if_pos (hlt.2 q)]; omega
  · rw [if_neg q, if_neg fun w => q (hlt.1 w)]; omega
theorem heard_far {s : List UInt8} {ns : Nat} {gs : Nat → List V} {d : Nat → Int} {side : Int} {nq : Nat} {gq : Nat → List V} {m : Nat} {gt : Nat → List V} (h : TypeOk s ns gs d side nq gq m gt) (hx hy p x y z : Int) :
    heardE d side nq gq m gt hx hy p (2 * x) (2 * y) (2 * z) ≤ heardE d side nq gq m gt hx hy p x y z := by
  refine heard_le (.inr rfl) (fun k hk => (h.dir k hk).1) h.sideOk.1 (emE_le h.cnt.1 (fun _ => rfl) (fun i hi => powers_mono h hi) fun i hi => ?_)
  have hq : 0 < nq := (squaresE_zero.1 h.squares).1.1
  have f : ∀ q : Int, 2 * q * (2 * q) = 4 * (q * q) := fun q => by rw [Int.mul_assoc, Int.mul_left_comm q 2 q, ← Int.mul_assoc]; rfl
  have a := sq_nn x
  have b := sq_nn y
  have c := sq_nn z
  exact en_anti (setOk h hi).2.2.2.2 (reach_mono (by rw [f, f, f]; omega)) (reachN_lt hq)
theorem bandE_eq {e n : Int} (he : 0 ≤ e) (hn : 0 ≤ n) : bandE e n = e * n / 1000 := by
  unfold bandE
  have h5 : e * n = (e / 1000) * n * 1000 + (e % 1000) * n := by
    have : e = e / 1000 * 1000 + e % 1000 := by omega
    conv => lhs; rw [this, Int.add_mul, Int.mul_right_comm]
  rw [h5]
  generalize e / 1000 * n = p at *
  generalize e % 1000 * n = q at *
  omega
/-- All bands but the first one fall with the whole. -/
theorem bands_mono {e e' : Int} {f : Nat → Int} {n i : Nat} (he : 0 ≤ e') (h : e' ≤ e) (hf : 0 ≤ f i) (hi : 0 < i) : bandsE e' f n i ≤ bandsE e f n i := by
  unfold bandsE
  rw [if_neg (by omega), if_neg (by omega), bandE_eq he hf, bandE_eq (by omega) hf]
  have := Int.mul_le_mul_of_nonneg_right h hf
  omega
end Go.Fly
