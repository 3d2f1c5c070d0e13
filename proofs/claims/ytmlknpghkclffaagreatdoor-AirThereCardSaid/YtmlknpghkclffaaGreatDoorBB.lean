/- Part of a proof: an evaluator of the model's code by abstract values, and plain laws for it. No conditions. -/
import Derived.Test.YtmlknpghkclffaaGreatDoorBA
import Derived.Test.YtmlknpghkclffaaGreatDoorAZ
import Derived.Test.YtmlknpghkclffaaGreatDoorAP
import Derived.Test.YtmlknpghkclffaaGreatDoorAR
set_option linter.unusedSimpArgs false
set_option linter.unusedVariables false
section
/- A layer that is split: what the steps of both parts are. -/
namespace Go.Fly
open Go
/-! Roots of the squares of two parts. -/
theorem crossS {a c p q S T : Int} (ha : 0 ≤ a) (hc : 0 ≤ c) (hp : 0 ≤ p) (hq : 0 ≤ q) (hS : 0 ≤ S) (hT : 0 ≤ T) (h1 : a * a * T ≤ S * p * p) (h2 : c * c * T ≤ S * q * q) : a * c * T ≤ S * p * q := by
  refine Int.not_lt.1 fun h => ?_
  have h3 := sq_lt (Int.mul_nonneg (Int.mul_nonneg hS hp) hq) h
  have h4 : (a * a * T) * (c * c * T) ≤ (S * p * p) * (S * q * q) := Int.mul_le_mul h1 h2 (Int.mul_nonneg (Int.mul_nonneg hc hc) hT) (Int.mul_nonneg (Int.mul_nonneg hS hp) hp)
  grind
theorem crossT {a c p q S T : Int} (ha : 0 ≤ a) (hc : 0 ≤ c) (hp : 0 ≤ p) (hq : 0 ≤ q) (hS : 0 ≤ S) (hT : 0 ≤ T) (h1 : S * p * p ≤ a * a * T) (h2 : S * q * q ≤ c * c * T) : S * p * q ≤ a * c * T := by
  refine Int.not_lt.1 fun h => ?_
  have h3 := sq_lt (Int.mul_nonneg (Int.mul_nonneg ha hc) hT) h
  have h4 : (S * p * p) * (S * q * q) ≤ (a * a * T) * (c * c * T) := Int.mul_le_mul h1 h2 (Int.mul_nonneg (Int.mul_nonneg hS hq) hq) (Int.mul_nonneg (Int.mul_nonneg ha ha) hT)
  grind
theorem expT (a c T : Int) : (a + c) * (a + c) * T = a * a * T + 2 * (a * c * T) + c * c * T := by grind
theorem expS (p q S : Int) : S * (p + q) * (p + q) = S * p * p + 2 * (S * p * q) + S * q * q := by grind
theorem rootE_ge {s t k : Int} (hs : 0 ≤ s) (ht : 0 < t) (hk : 0 ≤ k) (h : k * k * t ≤ s) : k ≤ rootE s t := by
  refine Int.not_lt.1 fun q => ?_
  have h1 := rootE_up hs ht
  have h2 := rootE_nonneg s t
  have h3 := sq_le (x := rootE s t + 1) (y := k) (by omega) (by omega)
  have h4 := Int.mul_le_mul_of_nonneg_right h3 (Int.le_of_lt ht)
  omega
theorem rootE_lt {s t k : Int} (hs : 0 ≤ s) (ht : 0 < t) (hk : 0 ≤ k) (h : s < k * k * t) : rootE s t < k := by
  refine Int.not_le.1 fun q => ?_
  have h1 := rootE_sq hs ht
  have h3 := Int.mul_le_mul_of_nonneg_right (sq_le hk q) (Int.le_of_lt ht)
  omega
theorem rootUp_le {s t k : Int} (hs : 0 ≤ s) (ht : 0 < t) (hk : 0 ≤ k) (h : s ≤ k * k * t) : rootUp s t ≤ k := by
  refine Int.not_lt.1 fun q => ?_
  have h1 := rootE_sq hs ht
  have h2 := rootE_nonneg s t
  unfold rootUp at q
  split at q
  · rename_i r
    have h3 := Int.mul_le_mul_of_nonneg_right (sq_le hk (show k ≤ rootE s t by omega)) (Int.le_of_lt ht)
    omega
  · have h3 := Int.mul_lt_mul_of_pos_right (sq_lt hk q) ht
    omega
theorem rootUp_gt {s t k : Int} (hs : 0 ≤ s) (ht : 0 < t) (hk : 0 ≤ k) (h : k < rootUp s t) : k * k * t < s := by
  refine Int.not_le.1 fun q => ?_
  have := rootUp_le hs ht hk q
  omega
theorem sqT_nn {S p : Int} (hS : 0 ≤ S) : 0 ≤ S * p * p := by rw [Int.mul_assoc]; exact Int.mul_nonneg hS (sqN p)
theorem rootE_two {S T p q : Int} (hS : 0 ≤ S) (hT : 0 < T) (hp : 0 ≤ p) (hq : 0 ≤ q) :
    rootE (S * p * p) T + rootE (S * q * q) T ≤ rootE (S * (p + q) * (p + q)) T ∧ rootE (S * (p + q) * (p + q)) T ≤ rootE (S * p * p) T + rootE (S * q * q) T + 1 := by
  have hT' := Int.le_of_lt hT
  have n1 := sqT_nn (p := p) hS
  have n2 := sqT_nn (p := q) hS
  have n3 := sqT_nn (p := p + q) hS
  have a0 := rootE_nonneg (S * p * p) T
  have c0 := rootE_nonneg (S * q * q) T
  have a1 := rootE_sq n1 hT
  have c1 := rootE_sq n2 hT
  have a2 := rootE_up n1 hT
  have c2 := rootE_up n2 hT
  generalize rootE (S * p * p) T = a at *
  generalize rootE (S * q * q) T = c at *
  constructor
  · refine rootE_ge n3 hT (by omega) ?_
    have := crossS a0 c0 hp hq hS hT' a1 c1
    rw [expT, expS]; omega
  · have := crossT (a := a + 1) (c := c + 1) (by omega) (by omega) hp hq hS hT' (Int.le_of_lt a2) (Int.le_of_lt c2)
    have h : rootE (S * (p + q) * (p + q)) T < (a + 1) + (c + 1) := rootE_lt n3 hT (by omega) (by rw [expT, expS]; omega)
    omega
theorem rootUp_two {S T p q : Int} (hS : 0 ≤ S) (hT : 0 < T) (hp : 0 ≤ p) (hq : 0 ≤ q) :
    rootUp (S * (p + q) * (p + q)) T ≤ rootUp (S * p * p) T + rootUp (S * q * q) T ∧ rootUp (S * p * p) T + rootUp (S * q * q) T ≤ rootUp (S * (p + q) * (p + q)) T + 1 := by
  have hT' := Int.le_of_lt hT
  have n1 := sqT_nn (p := p) hS
  have n2 := sqT_nn (p := q) hS
  have n3 := sqT_nn (p := p + q) hS
  have a0 := rootUp_bd (S * p * p) T
  have c0 := rootUp_bd (S * q * q) T
  have u0 := rootUp_bd (S * (p + q) * (p + q)) T
  have a1 := rootUp_sq n1 hT
  have c1 := rootUp_sq n2 hT
  have u1 := rootUp_sq n3 hT
  have pq := Int.mul_nonneg (Int.mul_nonneg hS hp) hq
  constructor
  · refine rootUp_le n3 hT (by omega) ?_
    have := crossT (a := rootUp (S * p * p) T) (c := rootUp (S * q * q) T) (by omega) (by omega) hp hq hS hT' a1 c1
    rw [expT, expS]; omega
  · have mp : rootUp (S * p * p) T ≤ rootUp (S * (p + q) * (p + q)) T := rootUp_le n1 hT (by omega) (by rw [expS] at u1; rw [expS]; omega)
    have mq : rootUp (S * q * q) T ≤ rootUp (S * (p + q) * (p + q)) T := rootUp_le n2 hT (by omega) (by rw [expS] at u1; rw [expS]; omega)
    by_cases k1 : rootUp (S * p * p) T = 0
    · omega
    · by_cases k2 : rootUp (S * q * q) T = 0
      · omega
      · have a2 := rootUp_gt n1 hT (k := rootUp (S * p * p) T - 1) (by omega) (by omega)
        have c2 := rootUp_gt n2 hT (k := rootUp (S * q * q) T - 1) (by omega) (by omega)
        have := crossS (a := rootUp (S * p * p) T - 1) (c := rootUp (S * q * q) T - 1) (by omega) (by omega) hp hq hS hT' (Int.le_of_lt a2) (Int.le_of_lt c2)
        refine Int.not_lt.1 fun k => ?_
        have h5 := Int.mul_le_mul_of_nonneg_right (sq_le (x := rootUp (S * (p + q) * (p + q)) T) (y := (rootUp (S * p * p) T - 1) + (rootUp (S * q * q) T - 1)) (by omega) (by omega)) hT'
        rw [expT] at h5
        rw [expS] at u1
        rw [expS] at h5
        omega
/-! Sums where one part is two. -/
theorem sum_two {f g : Nat → Int} {I : Nat} (h1 : ∀ j, j < I → f j = g j) : ∀ {m : Nat}, I < m → (∀ j, I < j → j < m → f (j + 1) = g j) → sumI f (m + 1) = sumI g m + (f I + f (I + 1) - g I)
  | 0, h, _ => by omega
  | m + 1, h, h2 => by
    by_cases e : I = m
    · subst e
      simp only [sumI]
      rw [sumI_congr (f := f) (g := g) h1]
      omega
    · have ih := sum_two h1 (m := m) (by omega) fun j a b => h2 j a (by omega)
      have := h2 m (by omega) (by omega)
      rw [show sumI f (m + 1 + 1) = sumI f (m + 1) + f (m + 1) from rfl, ih, this]
      simp only [sumI]
      omega
end Go.Fly
end
section
/- A layer that is split: where both parts lie, and what is reckoned of them. -/
namespace Go.Fly
open Go
theorem at_spec {n : Nat} {get : Nat → List V} (hok : AirOk n get) {z : Int} (hz : z ≤ 20000) : ∃ i : Nat, i < n ∧ atE n get z = i ∧ z < topE n get i ∧ ∀ j, j < i → topE n get j ≤ z := by
  obtain ⟨i, hi, e⟩ := atE_ok hok hz
  rcases idxF_spec (p := fun i => decide (z < topE n get i)) (k := n) (i := 0) with e2 | ⟨j, q1, q2, q3, q4, q5⟩
  · have : atE n get z = -1 := e2
    omega
  · have e3 : atE n get z = j := q3
    obtain rfl : i = j := by omega
    exact ⟨i, hi, e, by simpa using q4, fun k hk => by
      have := q5 k (by omega) hk
      simpa using this⟩
/-- A layer that can be split at a height. -/
structure Spl (n : Nat) (get : Nat → List V) (h : Int) (I : Nat) : Prop where
  ok : AirOk n get
  lt : I < n
  at_ : splI n get h = I
  low : botE get I < h
  up : h < topE n get I
  near : h ≤ botE get I + 2000
section
variable {n : Nat} {get : Nat → List V} {h : Int} {I : Nat}
abbrev splW (n : Nat) (get : Nat → List V) (h : Int) (I : Nat) : Nat → List V := repG get (splV n get h) I
theorem Spl.lt_ (s : Spl n get h I) {j : Nat} (hj : j < I) : splW n get h I j = get j := if_pos hj
theorem Spl.gt_ (s : Spl n get h I) {j : Nat} (hj : I + 1 < j) : splW n get h I j = get (j - 1) := by
  unfold splW repG; rw [if_neg (by omega), if_neg (by omega), if_neg (by omega)]
theorem Spl.I_ (s : Spl n get h I) : splW n get h I I = splV n get h 0 := by
  unfold splW repG; rw [if_neg (by omega), if_pos rfl]
theorem Spl.I1_ (s : Spl n get h I) : splW n get h I (I + 1) = splV n get h 1 := by
  unfold splW repG; rw [if_neg (by omega), if_neg (by omega), if_pos rfl]
theorem Spl.A_ (s : Spl n get h I) : splA n get h = h - botE get I := by unfold splA; rw [s.at_]
theorem cellOf {g g' : Nat → List V} {i j k : Nat} (e : g i = g' j) : cell g i k = cell g' j k := by unfold cell; rw [e]
theorem inNOf {g g' : Nat → List V} {i j k : Nat} (e : g i = g' j) : inN g i k = inN g' j k := by unfold inN; rw [e]
theorem inGOf {g g' : Nat → List V} {i j k : Nat} (e : g i = g' j) : inG g i k = inG g' j k := by unfold inG; rw [e]
theorem Spl.th0 (s : Spl n get h I) : cell (splW n get h I) I 0 = h - botE get I := by
  rw [cellOf (g' := splV n get h) (j := 0) s.I_, ← s.A_]; rfl
theorem Spl.th1 (s : Spl n get h I) : cell (splW n get h I) (I + 1) 0 = splB n get h := by
  rw [cellOf (g' := splV n get h) (j := 1) s.I1_]; rfl
theorem Spl.bot_le (s : Spl n get h I) {j : Nat} (hj : j ≤ I) : botE (splW n get h I) j = botE get j :=
  bot_congr fun k hk => cellOf (s.lt_ (by omega))
theorem Spl.bot1 (s : Spl n get h I) : botE (splW n get h I) (I + 1) = h := by
  show botE (splW n get h I) I + cell (splW n get h I) I 0 = h
  rw [s.bot_le (Nat.le_refl I), s.th0]; omega
theorem Spl.bot_gt (s : Spl n get h I) : ∀ {j : Nat}, I < j → j < n → botE (splW n get h I) (j + 1) = botE get j
  | 0, h1, _ => by omega
  | j + 1, h1, h2 => by
    show botE (splW n get h I) (j + 1) + cell (splW n get h I) (j + 1) 0 = botE get j + cell get j 0
    by_cases e : I = j
    · subst e
      rw [s.bot1, s.th1]
      unfold splB
      rw [s.at_, if_pos (by omega), s.A_]
      omega
    · rw [s.bot_gt (j := j) (by omega) (by omega), cellOf (g' := get) (j := j) (s.gt_ (j := j + 1) (by omega))]
theorem Spl.top_lt (s : Spl n get h I) {j : Nat} (hj : j < I) : topE (n + 1) (splW n get h I) j = topE n get j := by
  have := s.lt
  unfold topE
  rw [if_neg (by omega), if_neg (by omega), s.bot_le (by omega), cellOf (s.lt_ hj)]
theorem Spl.top0 (s : Spl n get h I) : topE (n + 1) (splW n get h I) I = h := by
  have := s.lt
  unfold topE
  rw [if_neg (by omega)]
  exact s.bot1
theorem Spl.top_gt (s : Spl n get h I) {j : Nat} (h1 : I ≤ j) (h2 : j < n) : topE (n + 1) (splW n get h I) (j + 1) = topE n get j := by
  unfold topE
  by_cases e : j + 1 = n
  · rw [if_pos (by omega), if_pos (by omega)]
  · rw [if_neg (by omega), if_neg (by omega)]
    show botE (splW n get h I) (j + 1 + 1) = botE get (j + 1)
    exact s.bot_gt (by omega) (by omega)
/-- Where a height lies, before and after. -/
theorem Spl.at_w (s : Spl n get h I) {z : Int} {i : Nat} (hi : i < n) (ei : atE n get z = i) (h1 : z < topE n get i) (h2 : ∀ j, j < i → topE n get j ≤ z) :
    atE (n + 1) (splW n get h I) z = ((if i < I then i else if i = I then (if z < h then I else I + 1) else i + 1 : Nat) : Int) := by
  have hIn := s.lt
  by_cases a : i < I
  · rw [if_pos a]
    exact atE_eq (by omega) (by rw [s.top_lt a]; exact h1) fun j hj => by rw [s.top_lt (by omega)]; have := h2 j hj; omega
  · rw [if_neg a]
    by_cases b : i = I
    · subst b
      rw [if_pos rfl]
      by_cases c : z < h
      · rw [if_pos c]
        exact atE_eq (by omega) (by rw [s.top0]; exact c) fun j hj => by rw [s.top_lt hj]; have := h2 j hj; omega
      · rw [if_neg c]
        refine atE_eq (by omega) (by rw [s.top_gt (Nat.le_refl i) hi]; exact h1) fun j hj => ?_
        by_cases e : j = i
        · subst e; rw [s.top0]; exact c
        · rw [s.top_lt (by omega)]; have := h2 j (by omega); omega
    · rw [if_neg b]
      have hup := s.up
      have hI2 := h2 I (by omega)
      refine atE_eq (by omega) (by rw [s.top_gt (by omega) hi]; exact h1) fun j hj => ?_
      by_cases e : j < I
      · rw [s.top_lt e]; have := h2 j (by omega); omega
      · by_cases e2 : j = I
        · subst e2; rw [s.top0]; omega
        · obtain ⟨k, rfl⟩ : ∃ k, j = k + 1 := ⟨j - 1, by omega⟩
          rw [s.top_gt (by omega) (by omega)]
          have := h2 k (by omega); omega
/-- The parts of a way that lie in the layers, before and after. -/
theorem Spl.part (s : Spl n get h I) {z0 z1 flat : Int} (hz : z0 ≤ z1) (hf : flat ≤ 20000) :
    (∀ j, j < I → partE (n + 1) (splW n get h I) z0 z1 flat j = partE n get z0 z1 flat j) ∧ (∀ j, I < j → j < n → partE (n + 1) (splW n get h I) z0 z1 flat (j + 1) = partE n get z0 z1 flat j) ∧
      partE (n + 1) (splW n get h I) z0 z1 flat I + partE (n + 1) (splW n get h I) z0 z1 flat (I + 1) = partE n get z0 z1 flat I := by
  have hIn := s.lt
  by_cases e : z1 - z0 = 0
  · obtain ⟨i, hi, ei, h1, h2⟩ := at_spec s.ok hf
    have ew := s.at_w hi ei h1 h2
    unfold partE
    simp only [if_pos e, ew, ei]
    refine ⟨fun j hj => ?_, fun j hj hj2 => ?_, ?_⟩
    · split <;> split <;> (repeat' split at *) <;> omega
    · split <;> split <;> (repeat' split at *) <;> omega
    · (repeat' split) <;> (repeat' split at *) <;> omega
  · unfold partE
    simp only [if_neg e]
    refine ⟨fun j hj => ?_, fun j hj hj2 => ?_, ?_⟩
    · rw [s.bot_le (by omega), s.top_lt hj]
    · rw [s.bot_gt hj hj2, s.top_gt (by omega) hj2]
    · rw [s.bot_le (Nat.le_refl I), s.top0, s.bot1, s.top_gt (Nat.le_refl I) hIn]
      have a := s.low
      have b := s.up
      rw [over_clamp (Int.le_of_lt a) hz, over_clamp (Int.le_of_lt b) hz, over_clamp (by omega) hz]
      omega
/-- The steps of all layers together change by at most one. -/
theorem Spl.sums (s : Spl n get h I) {sq z0 z1 flat : Int} (hsq : 0 ≤ sq) (hz : z0 ≤ z1) (hf : flat ≤ 20000) :
    (sumI (stepLo n get sq z0 z1 flat) n - 1 ≤ sumI (stepLo (n + 1) (splW n get h I) sq z0 z1 flat) (n + 1) ∧ sumI (stepLo (n + 1) (splW n get h I) sq z0 z1 flat) (n + 1) ≤ sumI (stepLo n get sq z0 z1 flat) n) ∧
    (sumI (stepHi n get sq z0 z1 flat) n ≤ sumI (stepHi (n + 1) (splW n get h I) sq z0 z1 flat) (n + 1) ∧ sumI (stepHi (n + 1) (splW n get h I) sq z0 z1 flat) (n + 1) ≤ sumI (stepHi n get sq z0 z1 flat) n + 1) := by
  obtain ⟨p1, p2, p3⟩ := s.part hz hf
  have q0 := (part_bd (n := n + 1) (get := splW n get h I) (flat := flat) (i := I) hz).1
  have q1 := (part_bd (n := n + 1) (get := splW n get h I) (flat := flat) (i := I + 1) hz).1
  have hb : 0 < byE z0 z1 := by unfold byE; split <;> omega
  have hT : 0 < byE z0 z1 * byE z0 z1 * 100 * 100 := by have := Int.mul_pos hb hb; omega
  have e1 := sum_two (f := stepLo (n + 1) (splW n get h I) sq z0 z1 flat) (g := stepLo n get sq z0 z1 flat) (I := I) (fun j hj => by unfold stepLo; rw [p1 j hj]) (m := n) s.lt fun j a b => by unfold stepLo; rw [p2 j a b]
  have e2 := sum_two (f := stepHi (n + 1) (splW n get h I) sq z0 z1 flat) (g := stepHi n get sq z0 z1 flat) (I := I) (fun j hj => by unfold stepHi; rw [p1 j hj]) (m := n) s.lt fun j a b => by unfold stepHi; rw [p2 j a b]
  have r1 := rootE_two (S := sq) hsq hT q0 q1
  have r2 := rootUp_two (S := sq) hsq hT q0 q1
  rw [p3] at r1 r2
  rw [e1, e2]
  unfold stepLo stepHi
  omega
end
end Go.Fly
end
section
/- The law on layers that are split: its plain part. -/
namespace Go.Fly
open Go
theorem layerE_th {th th' sp wx wy : Int} {m : Nat} {g : Nat → List V} {bands : Int} (h : layerE th sp wx wy m g bands = 0) (ht : 1 ≤ th' ∧ th' ≤ 2000) : layerE th' sp wx wy m g bands = 0 := by
  have hz := layerE_zero h
  unfold layerE at h ⊢
  by_cases h1 : layerE1 th sp wx wy = 0
  · have h2 : layerE2 m bands = 0 := layerE2_zero.2 ⟨hz.2.1, hz.2.2.1, hz.2.2.2.1⟩
    have h3 : layerE1 th' sp wx wy = 0 := by
      unfold layerE1 at h1 ⊢
      rw [firstL_zero] at h1 ⊢
      simp only [List.mem_cons, List.not_mem_nil, or_false, forall_eq_or_imp, forall_eq, rng_zero] at h1 ⊢
      omega
    simp only [h1, h2, h3, ne_eq, not_true_eq_false, if_false] at h ⊢
    exact h
  · simp only [ne_eq, h1, not_false_eq_true, if_true] at h
theorem splE_cases {n : Nat} {get : Nat → List V} {h : Int} (h1 : spl1 n get h = 0) (hn : n ≤ 7) (h2 : ¬ splE n get h = 0) : splE n get h = 9 ∨ splE n get h = 4 := by
  have hd : decide ((n : Int) = 8) = false := decide_eq_false (by omega)
  unfold splE spl2 at h2 ⊢
  rw [hd] at h2 ⊢
  rw [if_neg (by simp [h1])] at h2 ⊢
  by_cases a : botE get (splI n get h) = h
  · have hd2 : decide (botE get (splI n get h) = h) = true := decide_eq_true a
    rw [hd2]; exact .inl (by simp [firstL, err])
  · have hd2 : decide (botE get (splI n get h) = h) = false := decide_eq_false a
    rw [hd2] at h2 ⊢
    by_cases b : 2000 < splA n get h
    · exact .inr (by simp [firstL, err, b])
    · exact absurd (by simp [firstL, err, b]) h2
theorem spl_of {n : Nat} {get : Nat → List V} {h : Int} (h1 : spl1 n get h = 0) (h2 : splE n get h = 0) : Spl n get h (splI n get h) := by
  have hz := firstL_zero.1 h1
  have hae : airE n get = 0 := hz _ (by simp)
  have hh := rng_zero.1 (hz (rng h 1 10000) (by simp))
  have hok := airE_ok hae
  obtain ⟨I, hI, eI, q1, q2⟩ := at_spec hok (z := h) (by omega)
  have hsI : splI n get h = I := by unfold splI; rw [eI]; exact Int.toNat_natCast I
  have hb : botE get I ≤ h := by
    cases I with
    | zero => show (0 : Int) ≤ h; omega
    | succ k => rw [← top_next hI]; exact q2 k (by omega)
  unfold splE at h2
  rw [if_neg (by simp [h1])] at h2
  by_cases h3 : spl2 n get h = 0
  · have hz2 := firstL_zero.1 h3
    have e1 : ¬ botE get (splI n get h) = h := by
      have := hz2 (err (decide (botE get (splI n get h) = h)) 9) (by simp)
      rw [err_zero (by decide)] at this
      exact of_decide_eq_false this
    rw [if_neg (by simp [h3])] at h2
    have h4 : ¬ 2000 < splA n get h := fun q => by rw [if_pos q] at h2; omega
    unfold splA at h4
    rw [hsI] at e1 h4 ⊢
    exact ⟨hok, hI, hsI, by omega, q1, by omega⟩
  · rw [if_pos h3] at h2; exact absurd h2 h3
section
variable {n : Nat} {get : Nat → List V} {h : Int} {I : Nat}
/-- From which layer a layer of the split air is. -/
def srcI (I j : Nat) : Nat := if j ≤ I then j else j - 1
theorem Spl.src (s : Spl n get h I) (j : Nat) : (∀ k, k = 1 ∨ k = 2 ∨ k = 3 → cell (splW n get h I) j k = cell get (srcI I j) k) ∧ inN (splW n get h I) j 4 = inN get (srcI I j) 4 ∧ inG (splW n get h I) j 4 = inG get (srcI I j) 4 := by
  unfold srcI
  have h2 := s.at_
  by_cases a : j < I
  · rw [if_pos (by omega)]
    exact ⟨fun k _ => cellOf (s.lt_ a), inNOf (s.lt_ a), inGOf (s.lt_ a)⟩
  · by_cases b : j = I
    · subst b
      rw [if_pos (Nat.le_refl j)]
      refine ⟨fun k hk => ?_, ?_, ?_⟩
      · rw [cellOf (g' := splV n get h) (j := 0) s.I_]
        rcases hk with rfl | rfl | rfl
        · show cell get (splI n get h) 1 = _; rw [h2]
        · show cell get (splI n get h) 2 = _; rw [h2]
        · show cell get (splI n get h) 3 = _; rw [h2]
      · rw [inNOf (g' := splV n get h) (j := 0) s.I_]; show inN get (splI n get h) 4 = _; rw [h2]
      · rw [inGOf (g' := splV n get h) (j := 0) s.I_]; show inG get (splI n get h) 4 = _; rw [h2]
    · rw [if_neg (by omega)]
      by_cases c : j = I + 1
      · subst c
        rw [Nat.add_sub_cancel]
        refine ⟨fun k hk => ?_, ?_, ?_⟩
        · rw [cellOf (g' := splV n get h) (j := 1) s.I1_]
          rcases hk with rfl | rfl | rfl
          · show cell get (splI n get h) 1 = _; rw [h2]
          · show cell get (splI n get h) 2 = _; rw [h2]
          · show cell get (splI n get h) 3 = _; rw [h2]
        · rw [inNOf (g' := splV n get h) (j := 1) s.I1_]; show inN get (splI n get h) 4 = _; rw [h2]
        · rw [inGOf (g' := splV n get h) (j := 1) s.I1_]; show inG get (splI n get h) 4 = _; rw [h2]
      · exact ⟨fun k _ => cellOf (s.gt_ (by omega)), inNOf (s.gt_ (by omega)), inGOf (s.gt_ (by omega))⟩
theorem Spl.th (s : Spl n get h I) {j : Nat} (hj : j < n + 1) : 1 ≤ cell (splW n get h I) j 0 ∧ cell (splW n get h I) j 0 ≤ 2000 := by
  have hIn := s.lt
  have h1 := s.low
  have h2 := s.near
  have h3 := s.up
  have h5 := s.ok.th I hIn
  by_cases a : j < I
  · rw [cellOf (s.lt_ a)]; exact s.ok.th j (by omega)
  · by_cases b : j = I
    · subst b; rw [s.th0]; omega
    · by_cases c : j = I + 1
      · subst c; rw [s.th1]
        unfold splB
        rw [s.at_, s.A_]
        split
        · rw [topE, if_neg (by omega)] at h3; omega
        · omega
      · rw [cellOf (s.gt_ (by omega))]; exact s.ok.th (j - 1) (by omega)
theorem Spl.valid (s : Spl n get h I) (hae : airE n get = 0) (hn : n ≤ 7) : airE (n + 1) (splW n get h I) = 0 := by
  have hIn := s.lt
  have h0 : airE0 (n + 1) = 0 := airE0_zero.2 (by omega)
  have h00 : airE0 n = 0 := airE0_zero.2 s.ok.cnt
  have hb : inN (splW n get h I) 0 4 = inN get 0 4 := by
    rw [(s.src 0).2.1]; unfold srcI; rw [if_pos (Nat.zero_le _)]
  unfold airE at hae ⊢
  rw [if_neg (by simp [h00])] at hae
  rw [if_neg (by simp [h0]), firstI_zero]
  rw [firstI_zero] at hae
  intro j _ hj
  have hs : srcI I j < n := by unfold srcI; split <;> omega
  have := hae (srcI I j) (Nat.zero_le _) (by omega)
  obtain ⟨c, e1, e2⟩ := s.src j
  show layerE (cell (splW n get h I) j 0) (cell (splW n get h I) j 1) (cell (splW n get h I) j 2) (cell (splW n get h I) j 3) (inN (splW n get h I) j 4) (inG (splW n get h I) j 4) (inN (splW n get h I) 0 4) = 0
  rw [c 1 (by simp), c 2 (by simp), c 3 (by simp), e1, e2, hb]
  exact layerE_th this (s.th (by omega))
theorem Spl.short (s : Spl n get h I) (hsh : shortAirB n get = true) (hn : n ≤ 7) : shortAirB (n + 1) (splW n get h I) = true := by
  unfold shortAirB at hsh ⊢
  simp only [Bool.and_eq_true, decide_eq_true_eq] at hsh ⊢
  refine ⟨fun j hj => ?_, by omega⟩
  rw [(s.src j).2.1]
  have := s.lt
  exact hsh.1 _ (by unfold srcI; split <;> omega)
/-- At each height there is what was there before. -/
theorem Spl.same_at (s : Spl n get h I) {z : Int} (h0 : 0 ≤ z) (hz : z ≤ 10000) : ∃ i j : Nat, i < n ∧ j < n + 1 ∧ atE n get z = i ∧ atE (n + 1) (splW n get h I) z = j ∧ srcI I j = i ∧ botE get i ≤ z ∧ ((i : Int) < (n : Int) - 1 → z < botE get i + cell get i 0) := by
  obtain ⟨i, hi, ei, h1, h2⟩ := at_spec s.ok (z := z) (by omega)
  have ew := s.at_w hi ei h1 h2
  have hIn := s.lt
  refine ⟨i, _, hi, ?_, ei, ew, ?_, ?_, fun q => ?_⟩
  · (repeat' split) <;> omega
  · unfold srcI; (repeat' split) <;> (repeat' split at *) <;> omega
  · cases i with
    | zero => exact h0
    | succ k => rw [← top_next hi]; exact h2 k (by omega)
  · rw [topE, if_neg (by omega)] at h1; exact h1
end
end Go.Fly
end
section
/- What explains what is heard: the plain part of the law. -/
namespace Go.Fly
open Go
end Go.Fly
end
section
/- What a ground reflects: the plain part of the law. -/
namespace Go.Fly
open Go
/-- The factor's parts. -/
structure FacR (re im F G N : Int) (k : Nat) : Prop where
  pos : 0 < k
  top : facTop re im = F * k
  two : 2 * im = G * k
  den : facDen re im = N * k
end Go.Fly
end
section
/- The laws on what is heard and on the ground; layers that are split: what they are handed. -/
namespace Go.Fly
open Go
theorem inK_u16 (n : Int) : inK .u16 n ↔ 0 ≤ n ∧ n ≤ 65535 := by simp [inK, IntKind.min, IntKind.max, IntKind.bits, IntKind.signed]
/-- Pairs of numbers of 32 bits. -/
def IsU (n : Nat) (get : Nat → List V) : Prop := n ≤ 9223372036854775807 ∧ ∀ i, i < n → get i = [.int .u32 (cell get i 0), .int .u32 (cell get i 1)] ∧ (0 ≤ cell get i 0 ∧ cell get i 0 ≤ 4294967295) ∧ 0 ≤ cell get i 1 ∧ cell get i 1 ≤ 4294967295
theorem IsU.pu {n : Nat} {get : Nat → List V} (h : IsU n get) : Pu (.sl n 2 get) := pu_sl.2 fun i hi v hv => by
  rw [(h.2 i hi).1] at hv
  simp only [List.mem_cons, List.not_mem_nil, or_false] at hv
  rcases hv with rfl | rfl <;> exact .int _ _
theorem w16 : (16 < 64 ∧ IntKind.signed .i64 = true) = True := eq_true ⟨by decide, rfl⟩
theorem iteT {α : Type} {x y : α} : (if True then x else y) = x := if_pos trivial
def airPartsC : Contract := fun _ args =>
  match args with
  | [.sl n sz get, .agg [.int .i64 a, .int .i64 b, .int .i64 c, .int .i64 d, .int .i64 e, .int .i64 f], .agg [.int .u16 u, .int .u16 v]] => ⟨sz = 5 ∧ IsAir n get ∧ (0 ≤ u ∧ u ≤ 65535) ∧ 0 ≤ v ∧ v ≤ 65535, .bool true, none⟩
  | _ => ⟨False, .top, none⟩
attribute [go_sem] airPartsC
end Go.Fly
end
