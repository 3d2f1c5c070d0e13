/- Part of a proof: an evaluator of the model's code by abstract values, and plain laws for it. No conditions. -/
import Derived.Test.YtfpoimbidpojnaaDoorAK
import Derived.Test.YtfpoimbidpojnaaDoorAI
import Derived.Test.YtfpoimbidpojnaaDoorAD
import Derived.Test.YtfpoimbidpojnaaDoorAH
set_option linter.unusedSimpArgs false
set_option linter.unusedVariables false
section
/- A path and its way back; what fits. -/
namespace Go.Fly
open Go

theorem fitsB_iff {s : List UInt8} {ns : Nat} {gs : Nat → List V} {d : Nat → Int} {side : Int} {nq : Nat} {gq : Nat → List V} {m : Nat} {gt : Nat → List V} {n : Nat} {get : Nat → List V} {x y z hx hy p ax ay az : Int} :
    fitsB s ns gs d side nq gq m gt n get x y z hx hy p ax ay az = true ↔ shortB s ns nq m gt = true ∧ typeE s ns gs d side nq gq m gt = 0 ∧ shortAirB n get = true ∧ airE n get = 0 ∧ inN get 0 4 = ns ∧ stateE x y z hx hy p = 0 ∧
      (-2000 ≤ x ∧ x ≤ 2000) ∧ (-2000 ≤ y ∧ y ≤ 2000) ∧ (-2000 ≤ ax ∧ ax ≤ 2000) ∧ (-2000 ≤ ay ∧ ay ≤ 2000) ∧ z ≤ 2000 ∧ (-z).tdiv 2 ≤ az ∧ az ≤ 2000 ∧ ¬ (ax = 0 ∧ ay = 0 ∧ az = 0) := by
  simp only [fitsB, fitNum, Bool.and_eq_true, decide_eq_true_eq, Bool.not_eq_true', Bool.and_eq_false_iff, decide_eq_false_iff_not, and_assoc, ← Classical.not_and_iff_not_or_not]
theorem stateE_zero {x y z hx hy p : Int} : stateE x y z hx hy p = 0 ↔ PlaceOk x y z ∧ DirOk hx hy ∧ 1 ≤ p ∧ p ≤ 100 := by
  unfold stateE pointE dirE PlaceOk DirOk
  rw [firstL_zero]
  simp only [List.mem_cons, List.not_mem_nil, or_false, forall_eq_or_imp, forall_eq, firstL_zero, rng_zero]
/-- What fits, in plain words. -/
theorem fits_use {s : List UInt8} {ns : Nat} {gs : Nat → List V} {d : Nat → Int} {side : Int} {nq : Nat} {gq : Nat → List V} {m : Nat} {gt : Nat → List V} {n : Nat} {get : Nat → List V} {x y z hx hy p ax ay az : Int}
    (h : fitsB s ns gs d side nq gq m gt n get x y z hx hy p ax ay az = true) :
    TypeOk s ns gs d side nq gq m gt ∧ airE n get = 0 ∧ inN get 0 4 = ns ∧ PlaceOk x y z ∧ DirOk hx hy ∧ (1 ≤ p ∧ p ≤ 100) ∧ (-2000 ≤ x ∧ x ≤ 2000) ∧ (-2000 ≤ y ∧ y ≤ 2000) ∧ (-2000 ≤ ax ∧ ax ≤ 2000) ∧ (-2000 ≤ ay ∧ ay ≤ 2000) ∧ z ≤ 2000 ∧ -(z / 2) ≤ az ∧ az ≤ 2000 ∧ ¬ (ax = 0 ∧ ay = 0 ∧ az = 0) := by
  obtain ⟨-, h2, -, h4, h5, h6, h7, h8, h9, h10, h11, h12, h13, h14⟩ := fitsB_iff.1 h
  obtain ⟨g1, g2, g3⟩ := stateE_zero.1 h6
  have hz := g1.2.2
  have hzd : (-z).tdiv 2 = -(z / 2) := by rw [Int.neg_tdiv, Int.tdiv_eq_ediv_of_nonneg (by omega)]
  rw [hzd] at h12
  exact ⟨typeE_zero.1 h2, h4, h5, g1, g2, g3, h7, h8, h9, h10, h11, h12, h13, h14⟩

theorem sqE_sym (a b c d e f : Int) : sqE d e f a b c = sqE a b c d e f := by
  have h : ∀ u v : Int, (u - v) * (u - v) = (v - u) * (v - u) := fun u v => by
    rw [show u - v = -(v - u) by omega, Int.neg_mul_neg]
  unfold sqE
  rw [h a d, h b e, h c f]
theorem part_sym {n : Nat} {get : Nat → List V} {c f : Int} {i : Nat} : partE n get (min f c) (max f c) f i = partE n get (min c f) (max c f) c i := by
  have h1 : min f c = min c f := by omega
  have h2 : max f c = max c f := by omega
  rw [h1, h2]
  unfold partE
  by_cases h : max c f - min c f = 0
  · have : f = c := by omega
    rw [this]
  · rw [if_neg h, if_neg h]
theorem stepLo_sym {n : Nat} {get : Nat → List V} {sq c f : Int} {i : Nat} : stepLo n get sq (min f c) (max f c) f i = stepLo n get sq (min c f) (max c f) c i := by
  have h1 : min f c = min c f := by omega
  have h2 : max f c = max c f := by omega
  unfold stepLo
  rw [part_sym, h1, h2]
theorem stepHi_sym {n : Nat} {get : Nat → List V} {sq c f : Int} {i : Nat} : stepHi n get sq (min f c) (max f c) f i = stepHi n get sq (min c f) (max c f) c i := by
  have h1 : min f c = min c f := by omega
  have h2 : max f c = max c f := by omega
  unfold stepHi
  rw [part_sym, h1, h2]
theorem pLo_sym {n : Nat} {get : Nat → List V} (a b c d e f : Int) (k : Nat) : pLo n get d e f a b c k = pLo n get a b c d e f k := by
  unfold pLo
  have : (fun i => stepHi n get (sqE d e f a b c) (min f c) (max f c) f i) = fun i => stepHi n get (sqE a b c d e f) (min c f) (max c f) c i := funext fun i => by rw [sqE_sym, stepHi_sym]
  rw [this]
theorem pHi_sym {n : Nat} {get : Nat → List V} (a b c d e f : Int) (k : Nat) : pHi n get d e f a b c k = pHi n get a b c d e f k := by
  unfold pHi
  have : (fun i => stepLo n get (sqE d e f a b c) (min f c) (max f c) f i) = fun i => stepLo n get (sqE a b c d e f) (min c f) (max c f) c i := funext fun i => by rw [sqE_sym, stepLo_sym]
  rw [this]
theorem PathOk.back {a b c d e f : Int} (h : PathOk a b c d e f) : PathOk d e f a b c := ⟨h.2.1, h.1, fun q => h.2.2 ⟨q.1.symm, q.2.1.symm, q.2.2.symm⟩⟩
end Go.Fly
end
section
/- Walls: what screens; lengths; tables. -/
namespace Go.Fly
open Go

/-- The name of a wall. -/
def wName (get : Nat → List V) (i : Nat) : List UInt8 := match (get i)[0]? with | some (V.str s) => s | _ => []
def IsWalls (n : Nat) (get : Nat → List V) : Prop := n ≤ 9223372036854775807 ∧ ∀ i, i < n →
  get i = [.str (wName get i), .int .i64 (cell get i 1), .int .i64 (cell get i 2), .int .i64 (cell get i 3), .int .i64 (cell get i 4), .int .i64 (cell get i 5), .int .i64 (cell get i 6)] ∧ (wName get i).length ≤ 9223372036854775807
theorem IsWalls.pu {n : Nat} {get : Nat → List V} (h : IsWalls n get) : Pu (.sl n 7 get) := pu_sl.2 fun i hi v hv => by
  rw [(h.2 i hi).1] at hv
  simp only [List.mem_cons, List.not_mem_nil, or_false] at hv
  rcases hv with rfl | rfl | rfl | rfl | rfl | rfl | rfl <;> first | exact .int _ _ | exact .str _

/-- The side of a place by a wall, and by a path. -/
def sideE (ax ay bx ky px py den : Int) : Int := (bx - ax) * (py - ay * den) - (ky - ay) * (px - ax * den)
def besideE (sx sy tx ty den px py : Int) : Int := (tx - sx * den) * (py - sy) - (ty - sy * den) * (px - sx)
def oppo (p q : Int) : Bool := (decide (0 < p) && decide (q < 0)) || (decide (p < 0) && decide (0 < q))
def sameS (a b : Int) : Bool := (decide (0 < a) && decide (0 < b)) || (decide (a < 0) && decide (b < 0))
def absE (n : Int) : Int := max n (-n)
/-- Whether a wall stands between two places. -/
def cutB (ax ay bx ky sx sy tx ty den : Int) : Bool :=
  oppo (sideE ax ay bx ky sx sy 1) (sideE ax ay bx ky tx ty den) && !sameS (besideE sx sy tx ty den ax ay) (besideE sx sy tx ty den bx ky)
def excDen (ax ay bx ky sx sy tx ty den : Int) : Int := absE (sideE ax ay bx ky sx sy 1) * den + absE (sideE ax ay bx ky tx ty den)
def excNum (ax ay bx ky h sx sy sz tx ty tz den : Int) : Int :=
  h * excDen ax ay bx ky sx sy tx ty den - absE (sideE ax ay bx ky tx ty den) * sz - absE (sideE ax ay bx ky sx sy 1) * tz
def excB (ax ay bx ky h sx sy sz tx ty tz den : Int) : Bool := cutB ax ay bx ky sx sy tx ty den && decide (0 < excNum ax ay bx ky h sx sy sz tx ty tz den)
/-- The quotient that is rounded up. -/
def ceilE (a b : Int) : Int := if a / b * b < a then a / b + 1 else a / b
/-- The length of a square's side, down and up. -/
def lenLo (sq : Int) : Int := rtN sq.toNat sq.toNat
def lenHi (sq : Int) : Int := if lenLo sq * lenLo sq = sq then lenLo sq else lenLo sq + 1
def apartE (ax ay az bx ky bz : Int) : Int := (ax - bx) * (ax - bx) + (ay - ky) * (ay - ky) + (az - bz) * (az - bz)
def detLo (sx sy sz ex ey ez rx ry rz : Int) : Int := max 0 (lenLo (apartE sx sy sz ex ey ez) + lenLo (apartE ex ey ez rx ry rz) - lenHi (apartE sx sy sz rx ry rz))
def detHi (sx sy sz ex ey ez rx ry rz : Int) : Int := lenHi (apartE sx sy sz ex ey ez) + lenHi (apartE ex ey ez rx ry rz) - lenLo (apartE sx sy sz rx ry rz)
def depthE (ax ay bx ky h sx sy sz rx ry rz : Int) : Int :=
  if excB ax ay bx ky h sx sy sz rx ry rz 1 = true then
    max 1 (min (min (ceilE (excNum ax ay bx ky h sx sy sz rx ry rz 1) (excDen ax ay bx ky sx sy rx ry 1)) (detLo sx sy sz ax ay (min sz rz) rx ry rz)) (detLo sx sy sz bx ky (min sz rz) rx ry rz))
  else 0
def wDepth (get : Nat → List V) (sx sy sz rx ry rz : Int) (i : Nat) : Int := depthE (cell get i 1) (cell get i 2) (cell get i 3) (cell get i 4) (cell get i 5) sx sy sz rx ry rz

/-! ### There and back -/

theorem absE_neg (n : Int) : absE (-n) = absE n := by unfold absE; omega
theorem absE_nn (n : Int) : 0 ≤ absE n := by unfold absE; omega
theorem apart_sym (a b c d e f : Int) : apartE d e f a b c = apartE a b c d e f := by
  unfold apartE
  have h : ∀ p q : Int, (q - p) * (q - p) = (p - q) * (p - q) := fun p q => by rw [← Int.neg_mul_neg, Int.neg_sub]
  rw [h a d, h b e, h c f]
theorem beside_sym (sx sy rx ry px py : Int) : besideE rx ry sx sy 1 px py = -besideE sx sy rx ry 1 px py := by
  unfold besideE
  simp only [Int.mul_one]
  have e1 : (sx - rx) * (py - ry) = -((rx - sx) * (py - sy)) + (rx - sx) * (ry - sy) := by
    have : py - ry = (py - sy) - (ry - sy) := by omega
    rw [this, Int.mul_sub, show sx - rx = -(rx - sx) by omega, Int.neg_mul, Int.neg_mul]; omega
  have e2 : (sy - ry) * (px - rx) = -((ry - sy) * (px - sx)) + (rx - sx) * (ry - sy) := by
    have : px - rx = (px - sx) - (rx - sx) := by omega
    rw [this, Int.mul_sub, show sy - ry = -(ry - sy) by omega, Int.neg_mul, Int.neg_mul, Int.mul_comm (ry - sy) (rx - sx)]; omega
  rw [e1, e2]
  omega
theorem oppo_sym (p q : Int) : oppo q p = oppo p q := by
  unfold oppo
  rw [Bool.or_comm, Bool.and_comm (decide (q < 0)), Bool.and_comm (decide (0 < q))]
theorem same_neg (a b : Int) : sameS (-a) (-b) = sameS a b := by
  unfold sameS
  have h1 : ∀ x : Int, decide (0 < -x) = decide (x < 0) := fun x => by rw [decide_eq_decide]; omega
  have h2 : ∀ x : Int, decide (-x < 0) = decide (0 < x) := fun x => by rw [decide_eq_decide]; omega
  rw [h1, h1, h2, h2, Bool.or_comm]
theorem cut_sym (ax ay bx ky sx sy rx ry : Int) : cutB ax ay bx ky rx ry sx sy 1 = cutB ax ay bx ky sx sy rx ry 1 := by
  unfold cutB
  rw [oppo_sym, beside_sym sx sy rx ry ax ay, beside_sym sx sy rx ry bx ky, same_neg]
theorem den_sym (ax ay bx ky sx sy rx ry : Int) : excDen ax ay bx ky rx ry sx sy 1 = excDen ax ay bx ky sx sy rx ry 1 := by
  unfold excDen; rw [Int.mul_one, Int.mul_one, Int.add_comm]
theorem num_sym (ax ay bx ky h sx sy sz rx ry rz : Int) : excNum ax ay bx ky h rx ry rz sx sy sz 1 = excNum ax ay bx ky h sx sy sz rx ry rz 1 := by
  unfold excNum; rw [den_sym]; omega
theorem det_sym (sx sy sz ex ey ez rx ry rz : Int) : detLo rx ry rz ex ey ez sx sy sz = detLo sx sy sz ex ey ez rx ry rz := by
  unfold detLo
  rw [apart_sym ex ey ez rx ry rz, apart_sym sx sy sz ex ey ez, apart_sym sx sy sz rx ry rz]
  omega
theorem depth_sym (ax ay bx ky h sx sy sz rx ry rz : Int) : depthE ax ay bx ky h rx ry rz sx sy sz = depthE ax ay bx ky h sx sy sz rx ry rz := by
  unfold depthE excB
  rw [cut_sym, num_sym, den_sym, Int.min_comm rz sz, det_sym sx sy sz ax ay, det_sym sx sy sz bx ky]
theorem depth_nn (ax ay bx ky h sx sy sz rx ry rz : Int) : 0 ≤ depthE ax ay bx ky h sx sy sz rx ry rz := by
  unfold depthE; split <;> omega

/-! ### Tables -/

/-- The factor by the first rows of a table. -/
def facE (get : Nat → List V) (d : Int) : Nat → Int
  | 0 => 1000
  | k + 1 => if cell get k 0 ≤ d then cell get k 1 else facE get d k
structure TabOk2 (n : Nat) (get : Nat → List V) : Prop where
  cnt : 0 < n ∧ n ≤ 16
  from_ : ∀ i, i < n → 1 ≤ cell get i 0 ∧ cell get i 0 ≤ 1000000
  fac : ∀ i, i < n → 0 ≤ cell get i 1 ∧ cell get i 1 ≤ 1000
  up : ∀ i, i + 1 < n → cell get i 0 < cell get (i + 1) 0
  down : ∀ i, i + 1 < n → cell get (i + 1) 1 ≤ cell get i 1
theorem fac_bd {n : Nat} {get : Nat → List V} (h : TabOk2 n get) (d : Int) : ∀ {k : Nat}, k ≤ n → 0 ≤ facE get d k ∧ facE get d k ≤ 1000
  | 0, _ => by simp [facE]
  | k + 1, hk => by
    have a := h.fac k (by omega)
    have b := fac_bd h d (k := k) (by omega)
    unfold facE; split <;> omega
theorem fac_ge {n : Nat} {get : Nat → List V} (h : TabOk2 n get) (d : Int) : ∀ {k : Nat}, k < n → cell get k 1 ≤ facE get d k
  | 0, hk => by have := h.fac 0 hk; simp [facE]; omega
  | k + 1, hk => by
    have a := h.down k hk
    have b := fac_ge h d (k := k) (by omega)
    unfold facE; split <;> omega
theorem fac_mono {n : Nat} {get : Nat → List V} (h : TabOk2 n get) {d d' : Int} (hd : d ≤ d') : ∀ {k : Nat}, k ≤ n → facE get d' k ≤ facE get d k
  | 0, _ => Int.le_refl _
  | k + 1, hk => by
    have a := fac_mono h hd (k := k) (by omega)
    have b := fac_ge h d (k := k) (by omega)
    unfold facE
    split
    · split <;> omega
    · rw [if_neg (by omega)]; exact a
theorem fac_zero {n : Nat} {get : Nat → List V} (h : TabOk2 n get) : ∀ {k : Nat}, k ≤ n → facE get 0 k = 1000
  | 0, _ => rfl
  | k + 1, hk => by
    have a := h.from_ k (by omega)
    unfold facE; rw [if_neg (by omega)]; exact fac_zero h (by omega)
/-- Rows behind the first one that is too deep change nothing. -/
theorem fac_stop {n : Nat} {get : Nat → List V} (h : TabOk2 n get) {d : Int} {i : Nat} (hi : i < n) (hd : d < cell get i 0) : ∀ {k : Nat}, i ≤ k → k ≤ n → facE get d k = facE get d i
  | 0, h1, _ => by obtain rfl : i = 0 := by omega
                   rfl
  | k + 1, h1, h2 => by
    by_cases e : i = k + 1
    · rw [e]
    · have hm : ∀ {j : Nat}, i ≤ j → j < n → cell get i 0 ≤ cell get j 0 := by
        intro j
        induction j with
        | zero => intro h1 _; obtain rfl : i = 0 := by omega
                  exact Int.le_refl _
        | succ j ih =>
          intro h1 h2
          by_cases e : i = j + 1
          · subst e; exact Int.le_refl _
          · have := ih (by omega) (by omega)
            have := h.up j h2
            omega
      have := hm (j := k) (by omega) (by omega)
      show (if cell get k 0 ≤ d then cell get k 1 else facE get d k) = facE get d i
      rw [if_neg (by omega)]
      exact fac_stop h hi hd (by omega) (by omega)
/-- What walls leave of an energy. -/
def scrLo (e f : Int) : Int := e * f / 1000
def scrHi (e f : Int) : Int := ceilE (e * f) 1000
theorem scr_bd {e f : Int} (he : 0 ≤ e) (h0 : 0 ≤ f) (h1 : f ≤ 1000) : 0 ≤ scrLo e f ∧ scrLo e f ≤ scrHi e f ∧ scrHi e f ≤ e := by
  have a := Int.mul_nonneg he h0
  have b := Int.mul_le_mul_of_nonneg_left h1 he
  unfold scrLo scrHi ceilE
  split <;> omega
theorem scr_mono {e f f' : Int} (he : 0 ≤ e) (h : f ≤ f') : scrLo e f ≤ scrLo e f' ∧ scrHi e f ≤ scrHi e f' := by
  have b := Int.mul_le_mul_of_nonneg_left h he
  unfold scrLo scrHi ceilE
  refine ⟨by omega, ?_⟩
  split <;> split <;> omega
theorem sumI_nn {f : Nat → Int} : ∀ {n : Nat}, (∀ i, i < n → 0 ≤ f i) → 0 ≤ sumI f n
  | 0, _ => Int.le_refl _
  | n + 1, h => by
    have a := sumI_nn (n := n) fun i hi => h i (by omega)
    have b := h n (by omega)
    simp only [sumI]; omega
theorem len_spec {sq : Int} (h : 0 ≤ sq) : 0 ≤ lenLo sq ∧ lenLo sq * lenLo sq ≤ sq ∧ sq < (lenLo sq + 1) * (lenLo sq + 1) := by
  obtain ⟨S, rfl⟩ := Int.eq_ofNat_of_zero_le h
  unfold lenLo
  simp only [Int.toNat_natCast]
  have a := rtN_sq S S
  have b := rtN_up S S (Nat.le_refl _)
  refine ⟨by omega, by exact_mod_cast a, by exact_mod_cast b⟩
theorem len_eq {sq : Int} {k : Int} (h : 0 ≤ sq) (hk : 0 ≤ k) (h1 : k * k ≤ sq) (h2 : sq < (k + 1) * (k + 1)) : lenLo sq = k := by
  obtain ⟨S, rfl⟩ := Int.eq_ofNat_of_zero_le h
  obtain ⟨K, rfl⟩ := Int.eq_ofNat_of_zero_le hk
  unfold lenLo
  simp only [Int.toNat_natCast]
  rw [rtN_eq (Nat.le_refl _) (by exact_mod_cast h1) (by exact_mod_cast h2)]
end Go.Fly
end
section
/- A receiver that is twice as far away; layers that let less pass; energies that are halved. -/
namespace Go.Fly
open Go

/-! ### Roots -/

theorem rtN_mono {x y : Nat} (h : x ≤ y) : rtN x x ≤ rtN y y := by
  have a := rtN_sq x x
  rcases Nat.lt_or_ge (rtN y y) (rtN x x) with e | e
  · have b := rtN_up y y (Nat.le_refl _)
    have : (rtN y y + 1) * (rtN y y + 1) ≤ rtN x x * rtN x x := Nat.mul_le_mul e e
    omega
  · exact e
theorem rootE_mono {s s' t : Int} (h : s ≤ s') : rootE s t ≤ rootE s' t := by
  unfold rootE
  exact_mod_cast rtN_mono (Nat.div_le_div_right (by omega : s.toNat ≤ s'.toNat))
theorem rootE_four {s t : Int} (hs : 0 ≤ s) (ht : 0 ≤ t) : rootE (4 * s) (4 * t) = rootE s t := by
  unfold rootE
  have e1 : (4 * s).toNat = 4 * s.toNat := by omega
  have e2 : (4 * t).toNat = 4 * t.toNat := by omega
  rw [e1, e2, Nat.mul_div_mul_left _ _ (by decide)]
theorem rootUp_four {s t : Int} (hs : 0 ≤ s) (ht : 0 ≤ t) : rootUp (4 * s) (4 * t) = rootUp s t := by
  unfold rootUp
  rw [rootE_four hs ht]
  have e : rootE s t * rootE s t * (4 * t) = 4 * (rootE s t * rootE s t * t) := by rw [Int.mul_left_comm]
  rw [e]
  by_cases h : rootE s t * rootE s t * t < s
  · rw [if_pos h, if_pos (by omega)]
  · rw [if_neg h, if_neg (by omega)]
theorem rootUp_mono {s s' t : Int} (hs : 0 ≤ s) (ht : 0 < t) (h : s ≤ s') : rootUp s t ≤ rootUp s' t := by
  have hm := rootE_mono (t := t) h
  unfold rootUp
  by_cases e : rootE s t = rootE s' t
  · rw [e]
    by_cases h1 : rootE s' t * rootE s' t * t < s
    · rw [if_pos h1, if_pos (by omega)]; omega
    · rw [if_neg h1]; split <;> omega
  · split <;> split <;> omega

/-! ### Steps -/

theorem over_mono {bot top lo hi lo' hi' : Int} (h1 : lo' ≤ lo) (h2 : hi ≤ hi') : overE bot top lo hi ≤ overE bot top lo' hi' := by
  unfold overE; omega
/-- Twice as far in the same direction: four times the square, twice the height. -/
theorem step_far {n : Nat} {get : Nat → List V} {sq c v : Int} (hsq : 0 ≤ sq) (i : Nat) :
    stepLo n get sq (min c (c + v)) (max c (c + v)) c i ≤ stepLo n get (4 * sq) (min c (c + 2 * v)) (max c (c + 2 * v)) c i ∧
    stepHi n get sq (min c (c + v)) (max c (c + v)) c i ≤ stepHi n get (4 * sq) (min c (c + 2 * v)) (max c (c + 2 * v)) c i := by
  unfold stepLo stepHi
  by_cases hv : v = 0
  · subst hv
    have e1 : c + 2 * 0 = c := by omega
    have e2 : c + 0 = c := by omega
    rw [e1, e2]
    generalize partE n get (min c c) (max c c) c i = p
    generalize byE (min c c) (max c c) = b at *
    have hb : byE (min c c) (max c c) = 1 := by unfold byE; rw [if_pos (by omega)]
    have hpp := sq_nn p
    have h1 : sq * p * p ≤ 4 * sq * p * p := by
      rw [Int.mul_assoc, Int.mul_assoc]
      exact Int.mul_le_mul_of_nonneg_right (by omega) hpp
    have h0 : 0 ≤ sq * p * p := by rw [Int.mul_assoc]; exact Int.mul_nonneg hsq hpp
    refine ⟨rootE_mono h1, ?_⟩
    rcases Int.le_total (b * b * 100 * 100) 0 with hb | hb
    · unfold rootUp
      have hbb := sq_nn b
      have e : b * b * 100 * 100 = 0 := by omega
      rw [e]
      have z : ∀ s : Int, rootE s 0 = 0 := fun s => by
        unfold rootE
        simp [rtN]
      rw [z, z]
      simp only [Int.mul_zero]
      split <;> split <;> omega
    · by_cases e : b * b * 100 * 100 = 0
      · unfold rootUp
        rw [e]
        have z : ∀ s : Int, rootE s 0 = 0 := fun s => by
          unfold rootE
          simp [rtN]
        rw [z, z]
        simp only [Int.mul_zero]
        split <;> split <;> omega
      · exact rootUp_mono h0 (by omega) h1
  · have n1 : ¬ max c (c + v) - min c (c + v) = 0 := by omega
    have n2 : ¬ max c (c + 2 * v) - min c (c + 2 * v) = 0 := by omega
    have hb : byE (min c (c + 2 * v)) (max c (c + 2 * v)) = 2 * byE (min c (c + v)) (max c (c + v)) := by
      unfold byE; rw [if_neg n1, if_neg n2]; omega
    have hb1 : 1 ≤ byE (min c (c + v)) (max c (c + v)) := by unfold byE; rw [if_neg n1]; omega
    have hp : partE n get (min c (c + v)) (max c (c + v)) c i ≤ partE n get (min c (c + 2 * v)) (max c (c + 2 * v)) c i := by
      unfold partE; rw [if_neg n1, if_neg n2]; exact over_mono (by omega) (by omega)
    have hp0 : 0 ≤ partE n get (min c (c + v)) (max c (c + v)) c i := (part_bd (by omega)).1
    rw [hb]
    generalize partE n get (min c (c + v)) (max c (c + v)) c i = p at *
    generalize partE n get (min c (c + 2 * v)) (max c (c + 2 * v)) c i = q at *
    generalize byE (min c (c + v)) (max c (c + v)) = b at *
    have hpq : p * p ≤ q * q := Int.mul_le_mul hp hp hp0 (by omega)
    have h0 : 0 ≤ sq * p * p := by rw [Int.mul_assoc]; exact Int.mul_nonneg hsq (sq_nn p)
    have h1 : sq * p * p ≤ sq * q * q := by
      rw [Int.mul_assoc, Int.mul_assoc]
      exact Int.mul_le_mul_of_nonneg_left hpq hsq
    have e1 : 4 * sq * q * q = 4 * (sq * q * q) := by simp only [Int.mul_assoc]
    have e2 : 2 * b * (2 * b) * 100 * 100 = 4 * (b * b * 100 * 100) := by
      have : 2 * b * (2 * b) = 4 * (b * b) := by rw [Int.mul_assoc, Int.mul_left_comm b 2 b, ← Int.mul_assoc]; rfl
      rw [this]; omega
    have hbb : 1 ≤ b * b := by
      have := Int.mul_le_mul hb1 hb1 (by omega) (by omega : 0 ≤ b)
      omega
    rw [e1, e2, rootE_four (by omega) (by omega), rootUp_four (by omega) (by omega)]
    exact ⟨rootE_mono h1, rootUp_mono h0 (by omega) h1⟩
theorem sqE_far (a b c x y z : Int) : sqE a b c (a + 2 * x) (b + 2 * y) (c + 2 * z) = 4 * sqE a b c (a + 1 * x) (b + 1 * y) (c + 1 * z) := by
  unfold sqE
  have e : ∀ p q : Int, p + 2 * q - p = 2 * q := fun p q => by omega
  have e' : ∀ p q : Int, p + 1 * q - p = q := fun p q => by omega
  have f : ∀ q : Int, 2 * q * (2 * q) = 4 * (q * q) := fun q => by rw [Int.mul_assoc, Int.mul_left_comm q 2 q, ← Int.mul_assoc]; rfl
  simp only [e, e', f]
  omega

/-! ### What passes -/

theorem pass_mono {get get' : Nat → List V} {s1 s2 : Nat → Int} {b : Nat} : ∀ {n : Nat}, (∀ i, i < n → 0 ≤ s1 i ∧ s1 i ≤ s2 i) →
    (∀ i, i < n → 0 ≤ cell (inG get' i 4) b 0 ∧ cell (inG get' i 4) b 0 ≤ cell (inG get i 4) b 0 ∧ cell (inG get i 4) b 0 ≤ 1000) →
    0 ≤ passLo get' s2 b n ∧ passLo get' s2 b n ≤ passLo get s1 b n
  | 0, _, _ => by simp [passLo]
  | n + 1, hs, h => by
    have ih := pass_mono (n := n) (fun i hi => hs i (by omega)) (fun i hi => h i (by omega))
    have hn := h n (by omega)
    have hk := hs n (by omega)
    simp only [passLo]
    have a := down_bd hn.1 (by omega : cell (inG get' n 4) b 0 ≤ 1000) (k := (s2 n).toNat) ih.1
    have c := down_le hn.1 (by omega : cell (inG get' n 4) b 0 ≤ 1000) (k := (s1 n).toNat) (j := (s2 n).toNat) ih.1 (by omega)
    have d := down_mono hn.1 hn.2.1 (k := (s1 n).toNat) ih.1 ih.2
    omega
theorem pass_mono' {get get' : Nat → List V} {s1 s2 : Nat → Int} {b : Nat} : ∀ {n : Nat}, (∀ i, i < n → 0 ≤ s1 i ∧ s1 i ≤ s2 i) →
    (∀ i, i < n → 0 ≤ cell (inG get' i 4) b 1 ∧ cell (inG get' i 4) b 1 ≤ cell (inG get i 4) b 1 ∧ cell (inG get i 4) b 1 ≤ 1000) →
    0 ≤ passHi get' s2 b n ∧ passHi get' s2 b n ≤ passHi get s1 b n
  | 0, _, _ => by simp [passHi]
  | n + 1, hs, h => by
    have ih := pass_mono' (n := n) (fun i hi => hs i (by omega)) (fun i hi => h i (by omega))
    have hn := h n (by omega)
    have hk := hs n (by omega)
    simp only [passHi]
    have a := up_bd hn.1 (by omega : cell (inG get' n 4) b 1 ≤ 1000) (k := (s2 n).toNat) ih.1
    have c := up_le hn.1 (by omega : cell (inG get' n 4) b 1 ≤ 1000) (k := (s1 n).toNat) (j := (s2 n).toNat) ih.1 (by omega)
    have d := up_mono hn.1 hn.2.1 (k := (s1 n).toNat) ih.1 ih.2
    omega
/-- Twice as far away, no more passes. -/
theorem p_far {n : Nat} {get : Nat → List V} {a b c x y z : Int} (hok : AirOk n get) (hp : PathOk a b c (a + 1 * x) (b + 1 * y) (c + 1 * z)) {k : Nat} (hk : k < inN get 0 4) :
    pLo n get a b c (a + 2 * x) (b + 2 * y) (c + 2 * z) k ≤ pLo n get a b c (a + 1 * x) (b + 1 * y) (c + 1 * z) k ∧
    pHi n get a b c (a + 2 * x) (b + 2 * y) (c + 2 * z) k ≤ pHi n get a b c (a + 1 * x) (b + 1 * y) (c + 1 * z) k := by
  have hsq := sqE_bd hp
  have hst := fun i => step_bd (n := n) (get := get) (flat := c) hsq (show min c (c + 1 * z) ≤ max c (c + 1 * z) by omega) i
  have hf := fun i => step_far (n := n) (get := get) (c := c) (v := z) hsq.1 i
  have e1 : c + 1 * z = c + z := by omega
  unfold pLo pHi
  rw [sqE_far]
  rw [← e1] at hf
  refine ⟨(pass_mono (fun i hi => ⟨?_, (hf i).2⟩) fun i hi => ?_).2, (pass_mono' (fun i hi => ⟨(hst i).1, (hf i).1⟩) fun i hi => ?_).2⟩
  · have := hst i; omega
  · have := hok.pass i hi k hk; omega
  · have := hok.pass i hi k hk; omega

/-! ### Layers that let less pass -/

theorem bot_congr {get get' : Nat → List V} : ∀ {i : Nat}, (∀ j, j < i → cell get' j 0 = cell get j 0) → botE get' i = botE get i
  | 0, _ => rfl
  | i + 1, h => by simp only [botE]; rw [bot_congr fun j hj => h j (by omega), h i (by omega)]
theorem top_congr {n : Nat} {get get' : Nat → List V} {i : Nat} (h : ∀ j, j ≤ i → cell get' j 0 = cell get j 0) : topE n get' i = topE n get i := by
  unfold topE
  rw [bot_congr fun j hj => h j (by omega), h i (by omega)]
theorem idxF_congr {p q : Nat → Bool} : ∀ {k i : Nat}, (∀ j, i ≤ j → j < i + k → p j = q j) → idxF p i k = idxF q i k
  | 0, i, _ => rfl
  | k + 1, i, h => by
    unfold idxF
    rw [h i (by omega) (by omega), idxF_congr fun j h1 h2 => h j (by omega) (by omega)]
theorem part_congr {n : Nat} {get get' : Nat → List V} {z0 z1 flat : Int} {i : Nat} (h : ∀ j, cell get' j 0 = cell get j 0) : partE n get' z0 z1 flat i = partE n get z0 z1 flat i := by
  unfold partE atE
  rw [bot_congr fun j _ => h j, top_congr fun j _ => h j, idxF_congr (q := fun i => decide (flat < topE n get i)) fun j _ _ => by rw [top_congr fun j _ => h j]]
theorem p_thick {n : Nat} {get get' : Nat → List V} {a b c d e f : Int} (hok : AirOk n get) (hp : PathOk a b c d e f) (h0 : ∀ j, cell get' j 0 = cell get j 0) {k : Nat} (hk : k < inN get 0 4)
    (h1 : ∀ i, i < n → 0 ≤ cell (inG get' i 4) k 0 ∧ cell (inG get' i 4) k 0 ≤ cell (inG get i 4) k 0) (h2 : ∀ i, i < n → 0 ≤ cell (inG get' i 4) k 1 ∧ cell (inG get' i 4) k 1 ≤ cell (inG get i 4) k 1) :
    pLo n get' a b c d e f k ≤ pLo n get a b c d e f k ∧ pHi n get' a b c d e f k ≤ pHi n get a b c d e f k := by
  have hsq := sqE_bd hp
  have hst := fun i => step_bd (n := n) (get := get) (flat := c) hsq (show min c f ≤ max c f by omega) i
  unfold pLo pHi
  have e1 : (fun i => stepHi n get' (sqE a b c d e f) (min c f) (max c f) c i) = fun i => stepHi n get (sqE a b c d e f) (min c f) (max c f) c i := by
    funext i; unfold stepHi; rw [part_congr h0]
  have e2 : (fun i => stepLo n get' (sqE a b c d e f) (min c f) (max c f) c i) = fun i => stepLo n get (sqE a b c d e f) (min c f) (max c f) c i := by
    funext i; unfold stepLo; rw [part_congr h0]
  rw [e1, e2]
  refine ⟨(pass_mono (fun i hi => ⟨?_, Int.le_refl _⟩) fun i hi => ?_).2, (pass_mono' (fun i hi => ⟨(hst i).1, Int.le_refl _⟩) fun i hi => ?_).2⟩
  · have := hst i; omega
  · have := hok.pass i hi k hk; have := h1 i hi; omega
  · have := hok.pass i hi k hk; have := h2 i hi; omega
theorem arr_mono {e e' p p' : Int} (he : 0 ≤ e') (h : e' ≤ e) (hp : 0 ≤ p') (h2 : p' ≤ p) : arrLo e' p' ≤ arrLo e p ∧ arrHi e' p' ≤ arrHi e p := by
  have := Int.mul_le_mul h h2 hp (by omega : 0 ≤ e)
  unfold arrLo arrHi
  omega

/-! ### What is heard -/

theorem sec_two : ∀ {k : Nat} {t u v : Int}, sec k t (2 * u) (2 * v) = sec k t u v
  | 0, t, u, v => rfl
  | k + 1, t, u, v => by
    unfold sec
    have e : -(2 * u) = 2 * -u := by omega
    rw [e, sec_two (k := k)]
    by_cases h1 : (v < u ∧ 0 ≤ v) ∨ (u = 0 ∧ v = 0)
    · rw [if_pos h1, if_pos (by omega)]
    · rw [if_neg h1, if_neg (by omega)]
      by_cases h2 : u ≤ v ∧ 0 < u
      · rw [if_pos h2, if_pos (by omega)]
      · rw [if_neg h2, if_neg (by omega)]
theorem sectorE_two (hx hy x y : Int) : sectorE hx hy (2 * x) (2 * y) = sectorE hx hy x y := by
  unfold sectorE
  have e1 : hx * (2 * x) + hy * (2 * y) = 2 * (hx * x + hy * y) := by
    rw [Int.mul_left_comm hx 2 x, Int.mul_left_comm hy 2 y]; omega
  have e2 : hx * (2 * y) - hy * (2 * x) = 2 * (hx * y - hy * x) := by
    rw [Int.mul_left_comm hx 2 y, Int.mul_left_comm hy 2 x]; omega
  rw [e1, e2, sec_two]
theorem reach_mono {g : Nat → Int} {s s' : Int} (h : s ≤ s') : ∀ {n : Nat}, reachN g s n ≤ reachN g s' n
  | 0 => Nat.le_refl _
  | n + 1 => by
    unfold reachN
    split
    · rw [if_pos (by omega)]; exact Nat.le_refl _
    · have := reach_mono (g := g) h (n := n)
      split
      · rcases Nat.eq_zero_or_pos n with e | e
        · subst e; simp [reachN]
        · have := reachN_lt (g := g) (sq := s) e; omega
      · exact this
theorem between_mono {a b a' b' part whole : Int} (h1 : 0 ≤ part) (h2 : part ≤ whole) (h3 : 0 < whole) (ha : a' ≤ a) (hb : b' ≤ b) : betweenE a' b' part whole ≤ betweenE a b part whole := by
  have key : ∀ a b : Int, betweenE a b part whole = (a * (whole - part) + b * part) / whole := fun a b => by
    unfold betweenE
    have e : a * (whole - part) + b * part = (b - a) * part + a * whole := by
      rw [Int.mul_sub, Int.sub_mul]; omega
    rw [e, Int.add_mul_ediv_right _ _ (by omega)]
    omega
  rw [key, key]
  refine Int.ediv_le_ediv h3 ?_
  have e1 := Int.mul_le_mul_of_nonneg_right ha (by omega : 0 ≤ whole - part)
  have e2 := Int.mul_le_mul_of_nonneg_right hb h1
  omega
/-- Energies that are no greater. -/
theorem emE_le {nq : Nat} {gq : Nat → List V} {m : Nat} {gt gt' : Nat → List V} (hm : 0 < m) (hc : ∀ i, cell gt' i 0 = cell gt i 0) {power sq sq' : Int}
    (hmono : ∀ i, i + 1 < m → cell gt i 0 < cell gt (i + 1) 0) (hle : ∀ i, i < m → intAt (inG gt' i 1) (reachN (intAt gq) sq' nq) ≤ intAt (inG gt i 1) (reachN (intAt gq) sq nq)) :
    emE nq gq m gt' power sq' ≤ emE nq gq m gt power sq := by
  unfold emE
  simp only
  have hi : idxF (fun j => decide (power ≤ cell gt' j 0)) 0 m = idxF (fun j => decide (power ≤ cell gt j 0)) 0 m := idxF_congr fun j _ _ => by rw [hc]
  rw [hi]
  generalize reachN (intAt gq) sq' nq = r' at *
  generalize reachN (intAt gq) sq nq = r at *
  rcases idxF_spec (p := fun j => decide (power ≤ cell gt j 0)) (k := m) (i := 0) with e | ⟨j, q1, q2, q3, q4, q5⟩
  · rw [e, if_pos (by decide), if_pos (by decide)]
    exact hle (m - 1) (by omega)
  · have hj : j < m := by omega
    rw [q3, if_neg (show ¬ (j : Int) < 0 by omega), if_neg (show ¬ (j : Int) < 0 by omega), hc, hc]
    split
    · exact hle j hj
    · rename_i hne
      have hj0 : 0 < j := by
        rcases Nat.eq_zero_or_pos j with e | e
        · exact absurd (.inl (by omega)) hne
        · exact e
      have := q5 (j - 1) (by omega) (by omega)
      simp only [decide_eq_false_iff_not, decide_eq_true_eq] at this q4
      simp only [Int.toNat_natCast] at hne ⊢
      have hlt := hmono (j - 1) (by omega)
      rw [show j - 1 + 1 = j by omega] at hlt
      exact between_mono (by omega) (by omega) (by omega) (hle (j - 1) (by omega)) (hle j hj)
/-- Energies fall with the reach. -/
theorem en_anti {g : Nat → List V} {i n : Nat} (h : ∀ k, k < n → enBad g i k = false) : ∀ {k j : Nat}, k ≤ j → j < n → intAt (inG g i 1) j ≤ intAt (inG g i 1) k := by
  intro k j hkj hj
  induction j with
  | zero => obtain rfl : k = 0 := by omega
            exact Int.le_refl _
  | succ j ih =>
    by_cases e : k = j + 1
    · subst e; exact Int.le_refl _
    · have h1 := ih (by omega) (by omega)
      have h2 := h (j + 1) hj
      unfold enBad at h2
      simp only [Bool.or_eq_false_iff, Bool.and_eq_false_iff, decide_eq_false_iff_not, Nat.add_sub_cancel] at h2
      have h3 := h2.1
      omega
theorem heard_le {d : Nat → Int} {side : Int} {nq : Nat} {gq : Nat → List V} {m : Nat} {gt gt' : Nat → List V} {hx hy p x y z : Int} {t : Int} (ht : t = 1 ∨ t = 2) (hd : ∀ k, k < 8 → 0 ≤ d k) (hs : 0 ≤ side)
    (h : emE nq gq m gt' p (t * x * (t * x) + t * y * (t * y) + t * z * (t * z)) ≤ emE nq gq m gt p (x * x + y * y + z * z)) :
    heardE d side nq gq m gt' hx hy p (t * x) (t * y) (t * z) ≤ heardE d side nq gq m gt hx hy p x y z := by
  unfold heardE
  simp only
  have f : ∀ q : Int, t * q * (t * q) = t * t * (q * q) := fun q => by rw [Int.mul_assoc, Int.mul_left_comm q t q, ← Int.mul_assoc]
  have hs2 : sectorE hx hy (t * x) (t * y) = sectorE hx hy x y := by
    rcases ht with rfl | rfl
    · rw [Int.one_mul, Int.one_mul]
    · exact sectorE_two _ _ _ _
  obtain ⟨A, hA⟩ : ∃ A, A = x * x + y * y := ⟨_, rfl⟩
  obtain ⟨B, hB⟩ : ∃ B, B = z * z := ⟨_, rfl⟩
  have fA : t * x * (t * x) + t * y * (t * y) = t * t * A := by rw [f, f, hA, Int.mul_add]
  have fB : t * z * (t * z) = t * t * B := by rw [f, hB]
  have hk : (if t * t * A = 0 ∧ t * t * B = 0 then (0 : Int) else sectorE hx hy x y) = if A = 0 ∧ B = 0 then 0 else sectorE hx hy x y := by
    rcases ht with rfl | rfl
    · simp
    · by_cases q : A = 0 ∧ B = 0
      · rw [if_pos q, if_pos (by omega)]
      · rw [if_neg q, if_neg (by omega)]
  rw [fA, fB] at h
  rw [hs2, fA, fB, ← hA, ← hB, hk]
  rw [← hA, ← hB] at h
  have hb := sectorE_bd hx hy x y
  have hd' := hd (if A = 0 ∧ B = 0 then (0 : Int) else sectorE hx hy x y).toNat (by split <;> omega)
  have hlt : (4 * (t * t * B) < t * t * A) ↔ 4 * B < A := by rcases ht with rfl | rfl <;> omega
  generalize d (if A = 0 ∧ B = 0 then (0 : Int) else sectorE hx hy x y).toNat = D at *
  generalize emE nq gq m gt' p (t * t * A + t * t * B) = E' at *
  generalize emE nq gq m gt p (A + B) = E at *
  have h1 := Int.mul_le_mul_of_nonneg_right h hd'
  have h2 := Int.mul_le_mul_of_nonneg_right h1 hs
  by_cases q : 4 * B < A
  · rw [if_pos q, if_pos (hlt.2 q)]; omega
  · rw [if_neg q, if_neg fun w => q (hlt.1 w)]; omega
theorem heard_far {s : List UInt8} {ns : Nat} {gs : Nat → List V} {d : Nat → Int} {side : Int} {nq : Nat} {gq : Nat → List V} {m : Nat} {gt : Nat → List V} (h : TypeOk s ns gs d side nq gq m gt) (hx hy p x y z : Int) :
    heardE d side nq gq m gt hx hy p (2 * x) (2 * y) (2 * z) ≤ heardE d side nq gq m gt hx hy p x y z := by
  refine heard_le (.inr rfl) (fun k hk => (h.dir k hk).1) h.sideOk.1 (emE_le h.cnt.1 (fun _ => rfl) (fun i hi => powers_mono h hi) fun i hi => ?_)
  have hq : 0 < nq := (squaresE_zero.1 h.squares).1.1
  have f : ∀ q : Int, 2 * q * (2 * q) = 4 * (q * q) := fun q => by rw [Int.mul_assoc, Int.mul_left_comm q 2 q, ← Int.mul_assoc]; rfl
  have a := sq_nn x
  have b := sq_nn y
  have c := sq_nn z
  exact en_anti (setOk h hi).2.2.2.2 (reach_mono (by rw [f, f, f]; omega)) (reachN_lt hq)
theorem bandE_eq {e n : Int} (he : 0 ≤ e) (hn : 0 ≤ n) : bandE e n = e * n / 1000 := by
  unfold bandE
  have h5 : e * n = (e / 1000) * n * 1000 + (e % 1000) * n := by
    have : e = e / 1000 * 1000 + e % 1000 := by omega
    conv => lhs; rw [this, Int.add_mul, Int.mul_right_comm]
  rw [h5]
  generalize e / 1000 * n = p at *
  generalize e % 1000 * n = q at *
  omega
/-- All bands but the first one fall with the whole. -/
theorem bands_mono {e e' : Int} {f : Nat → Int} {n i : Nat} (he : 0 ≤ e') (h : e' ≤ e) (hf : 0 ≤ f i) (hi : 0 < i) : bandsE e' f n i ≤ bandsE e f n i := by
  unfold bandsE
  rw [if_neg (by omega), if_neg (by omega), bandE_eq he hf, bandE_eq (by omega) hf]
  have := Int.mul_le_mul_of_nonneg_right h hf
  omega
end Go.Fly
end
section
/- Calls that are walked where they stand; loops that keep what depends on the names; all that the call owns read out. -/
namespace Go.Fly
open Go

/-- A call whose body is walked with what the caller owns. -/
theorem CallT.inline {X : Cx} (hX : X.Ok) {f : FuncId} {fn : Func} {c : Code} (hf : X.P.funcs[f]? = some fn) (hb : fn.body = some c) (hm : X.P.follows .mixedOrders = true) {D : Tabs} (hd : drawsOk D c = true)
    (Γ : FuncId → Option Contract) (hΓ : ∀ g C, Γ g = some C → Holds X.P X.G g C) {hp : Heap} {ck : Nat} {args : List V} {Kn : V → Heap → Nat → Prop}
    (h : ∀ k1, exC ⟨X.P, Γ, X.G, none, k1⟩ D c ⟨ck + 1, args ++ List.replicate (fn.ntmps - args.length) .top, hp⟩ (inQ ⟨X.P, Γ, X.G, none, k1⟩ fn.results.toList fun v s' => Kn v s'.hp s'.ck)) : CallT X hp ck f args Kn := by
  intro w M B vs hst hho hargs
  have hG0 : ∀ g, R (mkK w M B hp ck) (X.G g) (.pointer (some ⟨g, 0, none⟩)) := fun g => (hX.G0 g).step hst hX.own
  have hX1 : (⟨X.P, Γ, X.G, none, mkK w M B hp ck⟩ : Cx).Ok := ⟨hΓ, hX.G, hG0, fun b hb => (hho.own b hb).1⟩
  refine (calls_of_T hf hb hΓ hX.G hho hG0 hargs (Kn := fun v s' => Kn v s'.hp s'.ck) (exC_ok hX1 hm c _ _ hd (h (mkK w M B hp ck)))).mono fun e w' ⟨rv, v, s', M', B', h1, h2, h3, h4, h5⟩ => ?_
  exact ⟨rv, v, s'.hp, s'.ck, M', B', h1, h2, h3, h4, h5⟩

def finK (v : Option V) (s : St) (Kn : V → St → Prop) : Prop := match v with
  | some v => Kn v s
  | none => False
theorem finK_some {v : V} {s : St} {Kn : V → St → Prop} : finK (some v) s Kn = Kn v s := by rw [finK]
@[congr] theorem finK_congr {v v' : Option V} {s : St} {Kn : V → St → Prop} (h : v = v') : finK v s Kn = finK v' s Kn := by subst h; rfl
theorem inQ_one {X : Cx} {r : ResultVar} {Kn : V → St → Prop} {s : St} {e : Exit} (he : e = .normal ∨ e = .ret) : inQ X [r] Kn e s = finK (res1 X s r) s Kn := by
  have key : (∃ v, resultV X s [r] = some v ∧ Kn v s) = finK (res1 X s r) s Kn := by
    unfold resultV resL finK
    cases h : res1 X s r with
    | none => simp [resL]
    | some v => simp [resL]
  rcases he with rfl | rfl <;> rw [inQ] <;> exact key
theorem inQ_normal1 {X : Cx} {r : ResultVar} {Kn : V → St → Prop} {s : St} : inQ X [r] Kn .normal s = finK (res1 X s r) s Kn := inQ_one (.inl rfl)
theorem inQ_ret1 {X : Cx} {r : ResultVar} {Kn : V → St → Prop} {s : St} : inQ X [r] Kn .ret s = finK (res1 X s r) s Kn := inQ_one (.inr rfl)
attribute [go_sem] finK_some inQ_normal1 inQ_ret1

theorem T.post {X : Cx} {c : Code} {s : St} {Q : Exit → St → Prop} (h : T X c s (fun e s' => ∃ s2, Ents X.k0 s' s2 ∧ Q e s2)) : T X c s Q :=
  fun a w hr => wpIn_mono (h a w hr) fun e a' w' ⟨s', ⟨s2, h1, h2⟩, h3⟩ => ⟨s2, h2, h1 a' w' h3⟩

/-- A loop by what its rounds keep, which may depend on the names that are taken; behind its exits a state that follows from theirs. -/
theorem RestT.loopK {X : Cx} {D : Tabs} {c : Code} {ck : Nat} {tm : List V} {hp : Heap} {Q : Exit → St → Prop} {β : Type} (dead : List Nat) (live : β → List (Nat × V)) (hpf : β → Heap) (Inv : Nat → β → Prop) (μ : β → Nat) (b0 : β)
    (hI : Inv (ck + 1) b0) (h0 : tmLe tm (sets (live b0) (tops dead tm))) (hh : HpLe hp (hpf b0))
    (round : ∀ ck' b, ck < ck' → Inv ck' b → exC X D c ⟨ck', sets (live b) (tops dead tm), hpf b⟩
      (seqQ (fun s' => ck ≤ s'.ck ∧ ∃ b', Inv (s'.ck + 1) b' ∧ μ b' < μ b ∧ tmLe s'.tm (sets (live b') (tops dead tm)) ∧ HpLe s'.hp (hpf b')) fun e s' => ∃ s2, Ents X.k0 s' s2 ∧ Q e s2)) : RestT X D (.loop c) ⟨ck, tm, hp⟩ Q := by
  intro hd hX hm
  refine T.post (T.loop (α := { x : Nat × β // ck < x.1 ∧ Inv x.1 x.2 }) (fun x => ⟨x.1.1, sets (live x.1.2) (tops dead tm), hpf x.1.2⟩) (fun x => μ x.1.2) ⟨(ck + 1, b0), by simp, hI⟩ (Ents.go h0 hh) ?_)
  rintro ⟨⟨ck', b⟩, h1, h2⟩
  refine T.mono (exC_ok hX hm c _ _ hd (round ck' b h1 h2)) fun e s' q => ?_
  cases e with
  | normal =>
    obtain ⟨q1, b', q2, q3, q4, q5⟩ := q
    obtain ⟨c1, t1, p1⟩ := s'
    exact ⟨⟨(c1 + 1, b'), by simp at q1 ⊢; omega, q2⟩, Ents.go q4 q5, q3⟩
  | _ => exact q

/-- Slot by slot the same, nothing, or what it holds read out. -/
def frzLe (hp : Heap) : List V → List V → Prop
  | [], [] => True
  | v :: l, v' :: l' => (v' = .top ∨ v' = v ∨ VEnt (frz 5 hp v) v') ∧ frzLe hp l l'
  | _, _ => False
theorem frzLe.spec {hp : Heap} : ∀ {l l' : List V}, frzLe hp l l' → l'.length = l.length ∧ ∀ (d : Nat) (v' : V), l'[d]? = some v' → ∃ v, l[d]? = some v ∧ (v' = .top ∨ v' = v ∨ VEnt (frz 5 hp v) v')
  | [], [], _ => ⟨rfl, fun d v h => by simp at h⟩
  | v :: l, v' :: l', h => by
    obtain ⟨h1, h2⟩ := frzLe.spec h.2
    refine ⟨by simp [h1], fun d u hu => ?_⟩
    cases d with
    | zero =>
      simp only [List.getElem?_cons_zero, Option.some.injEq] at hu ⊢
      subst hu
      exact ⟨v, rfl, h.1⟩
    | succ d => simpa using h2 d u (by simpa using hu)
  | [], _ :: _, h => h.elim
  | _ :: _, [], h => h.elim

/-- All that the call owns is let go; slots hold what could be read there. -/
theorem Ents.freeze {k0 : K} {ck : Nat} {tm tm' : List V} {hp : Heap} (h : frzLe hp tm tm') : Ents k0 ⟨ck, tm, hp⟩ ⟨ck + 1, tm', fun _ => none⟩ := by
  intro a w ⟨M, B, hst, hk, ht, hm⟩
  have ho : ∀ b, (mkK w M B hp ck).owned b → (mkK w M B hp ck).M b := fun b hb => (hk.own b hb).1
  let k' : K := mkK w (fun b => M b ∧ ¬ (mkK w M B hp ck).owned b) (fun _ => none) (fun _ => none) (ck + 1)
  have st : Step (mkK w M B hp ck) k' :=
    ⟨rfl, rfl, rfl, Nat.le_refl _, fun _ _ _ => rfl, fun b ⟨l, o, c, q, _⟩ => (by cases q), fun b _ q => q.1, fun b _ q q2 => ⟨q2, q⟩, fun l q => .inl (by rcases q with q | q <;> omega), fun l _ o' q => (by cases q)⟩
  refine ⟨_, _, hst.trans st, ⟨fun b q => hk.lt b q.1, fun b ⟨l, o, c, q, _⟩ => (by cases q), fun l o q => (by cases q), fun l l' b c c' o o' q => (by cases q), fun l o q => (by cases q)⟩, ⟨?_, fun d v' hv' => ?_⟩, hm.step st⟩
  · exact h.spec.1.trans ht.1
  · obtain ⟨v, hv, q⟩ := h.spec.2 d v' hv'
    have hR := ht.2 d v hv
    rcases q with rfl | rfl | q
    · exact .top _
    · exact hR.step st ho
    · exact q k' _ (frz_R (k' := k') hk (fun b hb hc => ⟨hb, rfl, fun q => by
        rcases hc with hc | hc
        · exact hc q.1
        · exact q.2 hc⟩) 5 hR).2
end Go.Fly
end
section
/- Contracts of the law on what is farther; airs that let less pass, types that are quieter. -/
namespace Go.Fly
open Go

/-- What passes on a path. -/
def passed2C : Contract := fun _ args =>
  match args with
  | [.sl n sz get, .agg [.int .i64 a, .int .i64 b, .int .i64 c, .int .i64 d, .int .i64 e, .int .i64 f]] =>
    ⟨sz = 5 ∧ IsAir n get ∧ airE n get = 0 ∧ PathOk a b c d e f,
      .tup [.sl (inN get 0 4) 2 (fun i => [.int .i64 (pLo n get a b c d e f i), .int .i64 (pHi n get a b c d e f i)]), .int .i64 0], none⟩
  | _ => ⟨False, .top, none⟩
attribute [go_sem] passed2C

/-- By how much a band lets less pass. -/
def byT (get : Nat → List V) (p : Int) (i b : Nat) : Int := (p + 7 * b + i).tmod (cell (inG get i 4) b 0 + 1)
def thR (get : Nat → List V) (p : Int) (i b : Nat) : List V := [.int .i64 (cell (inG get i 4) b 0 - byT get p i b), .int .i64 (cell (inG get i 4) b 1 - byT get p i b)]
def airR (get : Nat → List V) (i b : Nat) : List V := [.int .i64 (cell (inG get i 4) b 0), .int .i64 (cell (inG get i 4) b 1)]
def thG (get : Nat → List V) (p : Int) (i : Nat) : List V :=
  [.int .i64 (cell get i 0), .int .i64 (cell get i 1), .int .i64 (cell get i 2), .int .i64 (cell get i 3), .sl (inN get i 4) 2 (thR get p i)]
/-- An air whose lists are the call's own. -/
def ownRow (get : Nat → List V) (nu : Nat → Loc) (i : Nat) : List V :=
  [.int .i64 (cell get i 0), .int .i64 (cell get i 1), .int .i64 (cell get i 2), .int .i64 (cell get i 3), .msl (nu i) 0 (inN get i 4)]
def quR (gt : Nat → List V) (i k : Nat) : List V := [.int .i64 ((intAt (inG gt i 1) k).tdiv 2)]
def setR (gt : Nat → List V) (i k : Nat) : List V := [.int .i64 (intAt (inG gt i 1) k)]
def quG (gt : Nat → List V) (i : Nat) : List V := [.int .i64 (cell gt i 0), .sl (inN gt i 1) 1 (quR gt i)]
def ownSet (gt : Nat → List V) (nu : Nat → Loc) (i : Nat) : List V := [.int .i64 (cell gt i 0), .msl (nu i) 0 (inN gt i 1)]

theorem tmod_bd {a b : Int} (ha : 0 ≤ a) (hb : 0 < b) : 0 ≤ a.tmod b ∧ a.tmod b < b := ⟨Int.tmod_nonneg b ha, Int.tmod_lt_of_pos a hb⟩
theorem byT_bd {n : Nat} {get : Nat → List V} {p : Int} (hok : AirOk n get) (hp : 0 ≤ p) {i b : Nat} (hi : i < n) (hb : b < inN get 0 4) : 0 ≤ byT get p i b ∧ byT get p i b ≤ cell (inG get i 4) b 0 := by
  have h := hok.pass i hi b hb
  have := tmod_bd (a := p + 7 * b + i) (b := cell (inG get i 4) b 0 + 1) (by omega) (by omega)
  unfold byT
  omega
theorem isAir_th {n : Nat} {get : Nat → List V} {p : Int} (h : IsAir n get) : IsAir n (thG get p) := ⟨h.1, fun i hi => ⟨rfl, (h.2 i hi).2.1, fun b hb => rfl⟩⟩
theorem airE_th {n : Nat} {get : Nat → List V} {p : Int} (h : airE n get = 0) (hp : 0 ≤ p) : airE n (thG get p) = 0 := by
  have hok := airE_ok h
  unfold airE at h ⊢
  have h0 : airE0 n = 0 := airE0_zero.2 hok.cnt
  simp only [h0, ne_eq, not_true_eq_false, if_false] at h ⊢
  rw [firstI_zero] at h ⊢
  intro i hi hi2
  have hl := h i hi hi2
  have hin : i < n := by omega
  have e : layAt (thG get p) i (inN (thG get p) 0 4) = layerE (cell get i 0) (cell get i 1) (cell get i 2) (cell get i 3) (inN get i 4) (thR get p i) (inN get 0 4) := rfl
  have e2 : layAt get i (inN get 0 4) = layerE (cell get i 0) (cell get i 1) (cell get i 2) (cell get i 3) (inN get i 4) (inG get i 4) (inN get 0 4) := rfl
  rw [e]
  rw [e2] at hl
  have hz := layerE_zero hl
  unfold layerE at hl ⊢
  by_cases h1 : layerE1 (cell get i 0) (cell get i 1) (cell get i 2) (cell get i 3) = 0
  · have h2 : layerE2 (inN get i 4) (inN get 0 4) = 0 := layerE2_zero.2 ⟨hz.2.1, hz.2.2.1, hz.2.2.2.1⟩
    simp only [h1, h2, ne_eq, not_true_eq_false, if_false]
    unfold ivsE
    rw [firstI_zero]
    intro b hb hb2
    have hs := hok.same i hin
    have hbd := byT_bd hok hp hin (b := b) (by omega)
    have hps := hok.pass i hin b (by omega)
    have e3 : cell (thR get p i) b 0 = cell (inG get i 4) b 0 - byT get p i b := rfl
    have e4 : cell (thR get p i) b 1 = cell (inG get i 4) b 1 - byT get p i b := rfl
    rw [e3, e4]
    exact ivE_zero.2 (by omega)
  · simp only [ne_eq, h1, not_false_eq_true, if_true] at hl
/-- Layers that let less pass. -/
theorem p_th {n : Nat} {get : Nat → List V} {p a b c d e f : Int} (hok : AirOk n get) (hp0 : 0 ≤ p) (hp : PathOk a b c d e f) {k : Nat} (hk : k < inN get 0 4) :
    pLo n (thG get p) a b c d e f k ≤ pLo n get a b c d e f k ∧ pHi n (thG get p) a b c d e f k ≤ pHi n get a b c d e f k := by
  refine p_thick (get := get) (get' := thG get p) hok hp (fun j => rfl) hk (fun i hi => ?_) (fun i hi => ?_)
  · have h1 := byT_bd hok hp0 hi hk
    have h2 := hok.pass i hi k hk
    have e3 : cell (inG (thG get p) i 4) k 0 = cell (inG get i 4) k 0 - byT get p i k := rfl
    rw [e3]
    omega
  · have h1 := byT_bd hok hp0 hi hk
    have h2 := hok.pass i hi k hk
    have e3 : cell (inG (thG get p) i 4) k 1 = cell (inG get i 4) k 1 - byT get p i k := rfl
    rw [e3]
    omega

theorem isSet_qu {m : Nat} {gt : Nat → List V} (h : IsSet m gt) : IsSet m (quG gt) := ⟨h.1, fun i hi => ⟨rfl, (h.2 i hi).2.1, fun k hk => rfl⟩⟩
theorem half_mono {a b : Int} (h : a ≤ b) (ha : 0 ≤ a) : a.tdiv 2 ≤ b.tdiv 2 := by
  rw [Int.tdiv_eq_ediv_of_nonneg ha, Int.tdiv_eq_ediv_of_nonneg (by omega)]; omega
/-- A type whose energies are halved. -/
theorem typeOk_qu {s : List UInt8} {ns : Nat} {gs : Nat → List V} {d : Nat → Int} {side : Int} {nq : Nat} {gq : Nat → List V} {m : Nat} {gt : Nat → List V} (h : TypeOk s ns gs d side nq gq m gt) : TypeOk s ns gs d side nq gq m (quG gt) := by
  refine ⟨h.name, h.shares, h.dir, h.sideOk, h.squares, h.cnt, fun i hi => ?_⟩
  obtain ⟨g1, g2, g3, g4, g5⟩ := setOk h hi
  rw [setE_zero, setE0_zero]
  have e0 : ∀ j, cell (quG gt) j 0 = cell gt j 0 := fun j => rfl
  have e1 : ∀ j k, intAt (inG (quG gt) j 1) k = (intAt (inG gt j 1) k).tdiv 2 := fun j k => rfl
  have e2 : inN (quG gt) i 1 = inN gt i 1 := rfl
  rw [e0, e0, e2, g3]
  refine ⟨⟨g1, g2, rfl, fun k hk => ?_⟩, fun k hk => ?_⟩
  · have := g4 k hk
    rw [e1, Int.tdiv_eq_ediv_of_nonneg this.1]
    omega
  · have h5 := g5 k hk
    unfold enBad at h5 ⊢
    rw [e1, e1, e1]
    simp only [Bool.or_eq_false_iff, Bool.and_eq_false_iff, decide_eq_false_iff_not] at h5 ⊢
    obtain ⟨a, b⟩ := h5
    refine ⟨?_, ?_⟩
    · rcases a with a | a
      · exact .inl a
      · exact .inr (by have := half_mono (show intAt (inG gt i 1) k ≤ intAt (inG gt i 1) (k - 1) by omega) (g4 k hk).1; omega)
    · rcases b with b | b
      · exact .inl b
      · by_cases hi0 : 0 < i
        · exact .inr (by have := half_mono (show intAt (inG gt (i - 1) 1) k ≤ intAt (inG gt i 1) k by omega) ((setOk h (i := i - 1) (by omega)).2.2.2.1 k hk).1; omega)
        · exact .inl hi0
theorem heard_qu {s : List UInt8} {ns : Nat} {gs : Nat → List V} {d : Nat → Int} {side : Int} {nq : Nat} {gq : Nat → List V} {m : Nat} {gt : Nat → List V} (h : TypeOk s ns gs d side nq gq m gt) (hx hy p x y z : Int) :
    heardE d side nq gq m (quG gt) hx hy p x y z ≤ heardE d side nq gq m gt hx hy p x y z := by
  have hq : 0 < nq := (squaresE_zero.1 h.squares).1.1
  have := heard_le (d := d) (side := side) (nq := nq) (gq := gq) (m := m) (gt := gt) (gt' := quG gt) (hx := hx) (hy := hy) (p := p) (x := x) (y := y) (z := z) (t := 1) (.inl rfl) (fun k hk => (h.dir k hk).1) h.sideOk.1
    (emE_le (nq := nq) (gq := gq) (gt := gt) (gt' := quG gt) h.cnt.1 (fun _ => rfl) (fun i hi => powers_mono h hi) fun i hi => by
      have f : ∀ q : Int, 1 * q * (1 * q) = q * q := fun q => by rw [Int.one_mul]
      rw [f, f, f]
      have g4 := (setOk h hi).2.2.2.1 _ (reachN_lt (g := intAt gq) (sq := x * x + y * y + z * z) hq)
      have e1 : ∀ j k, intAt (inG (quG gt) j 1) k = (intAt (inG gt j 1) k).tdiv 2 := fun j k => rfl
      rw [e1, Int.tdiv_eq_ediv_of_nonneg g4.1]
      omega)
  simpa only [Int.one_mul] using this

/-! ### Lists of lists that are being made -/

theorem row_okN {cells : List V} {sz : Nat} (hl : cells.length = sz) (h : ∀ v ∈ cells, (Pu v ∨ isMsl v = true) ∧ oneC v = true) : ∀ i, i < 1 → ∀ v, v ∈ rowAt cells sz (0 + i) → (Pu v ∨ isMsl v = true) ∧ oneC v = true :=
  fun i hi v hv => by rw [rowOne hl hi] at hv; exact h v hv
theorem ivs_okN {n : Nat} {g : Nat → List V} (h : IsIv n g) : ∀ i, i < n → ∀ v, v ∈ g i → (Pu v ∨ isMsl v = true) ∧ oneC v = true := fun i hi v hv => ⟨.inl (ivs_ok h i hi v hv).1, (ivs_ok h i hi v hv).2⟩
theorem ints_okN {n : Nat} {g : Nat → List V} (h : IsInts n g) : ∀ i, i < n → ∀ v, v ∈ g i → (Pu v ∨ isMsl v = true) ∧ oneC v = true := fun i hi v hv => ⟨.inl (ints_ok h i hi v hv).1, (ints_ok h i hi v hv).2⟩
theorem onesN5 {a b c d : Int} {l : Loc} {m : Nat} : ∀ v ∈ [V.int .i64 a, V.int .i64 b, V.int .i64 c, V.int .i64 d, V.msl l 0 m], (Pu v ∨ isMsl v = true) ∧ oneC v = true := fun v hv => by
  simp only [List.mem_cons, List.not_mem_nil, or_false] at hv
  rcases hv with rfl | rfl | rfl | rfl | rfl
  · exact ⟨.inl (.int _ _), rfl⟩
  · exact ⟨.inl (.int _ _), rfl⟩
  · exact ⟨.inl (.int _ _), rfl⟩
  · exact ⟨.inl (.int _ _), rfl⟩
  · exact ⟨.inr rfl, rfl⟩
theorem onesN2 {a : Int} {l : Loc} {m : Nat} : ∀ v ∈ [V.int .i64 a, V.msl l 0 m], (Pu v ∨ isMsl v = true) ∧ oneC v = true := fun v hv => by
  simp only [List.mem_cons, List.not_mem_nil, or_false] at hv
  rcases hv with rfl | rfl
  · exact ⟨.inl (.int _ _), rfl⟩
  · exact ⟨.inr rfl, rfl⟩
theorem snocN {f f' : Nat → List V} {cells : List V} {sz i j : Nat} (hl : cells.length = sz) (h : f' i = cells) (hf : ∀ k, k < i → f' k = f k) (hj : j < i + 1) : f' j = if j < i then f j else rowAt cells sz (0 + (j - i)) := by
  by_cases e : j < i
  · rw [if_pos e]; exact hf j e
  · obtain rfl : j = i := by omega
    rw [if_neg e, rowOne hl (by omega), h]

structure NA where
  i : Nat
  nu : Nat → Loc
  H : Heap
/-- What is kept: the outer list, at L, of the rows so far; the inner ones; what lay before. -/
structure NInv (L : Loc) (sz : Nat) (row : (Nat → Loc) → Nat → List V) (szI : Nat) (m : Nat → Nat) (g : Nat → Nat → List V) (base : Heap) (cb n ck : Nat) (b : NA) : Prop where
  le : b.i ≤ n
  outer : b.H L = some (.arr b.i sz (row b.nu))
  inner : ∀ j, j < b.i → b.H (b.nu j) = some (.arr (m j) szI (g j))
  lo : ∀ j, j < b.i → cb < (b.nu j).1
  hi : ∀ j, j < b.i → (b.nu j).1 < ck
  ne : ∀ j, j < b.i → b.nu j ≠ L
  inj : ∀ j k, j < b.i → k < b.i → b.nu j = b.nu k → j = k
  base : ∀ l, l.1 ≤ cb → b.H l = base l
  free : ∀ l, ck ≤ l.1 → b.H l = none

theorem NInv.mono {L : Loc} {sz : Nat} {row : (Nat → Loc) → Nat → List V} {szI : Nat} {m : Nat → Nat} {g : Nat → Nat → List V} {base : Heap} {cb n ck ck' : Nat} {b : NA} (h : NInv L sz row szI m g base cb n ck b) (hc : ck ≤ ck') : NInv L sz row szI m g base cb n ck' b :=
  ⟨h.le, h.outer, h.inner, h.lo, fun j hj => Nat.lt_of_lt_of_le (h.hi j hj) hc, h.ne, h.inj, h.base, fun l hl => h.free l (Nat.le_trans hc hl)⟩
/-- Before the first row. -/
theorem NInv.start {L : Loc} {sz : Nat} {row : (Nat → Loc) → Nat → List V} {szI : Nat} {m : Nat → Nat} {g : Nat → Nat → List V} {base : Heap} {cb n ck : Nat} {nu : Nat → Loc} (hL : cb < L.1) (hL2 : L.1 < ck) (hf : ∀ l, cb < l.1 → base l = none) :
    NInv L sz row szI m g base cb n ck ⟨0, nu, updH base L (.arr 0 sz (row nu))⟩ := by
  refine ⟨Nat.zero_le _, updH_same _ _ _, fun j hj => absurd hj (Nat.not_lt_zero _), fun j hj => absurd hj (Nat.not_lt_zero _), fun j hj => absurd hj (Nat.not_lt_zero _), fun j hj => absurd hj (Nat.not_lt_zero _), fun j k hj => absurd hj (Nat.not_lt_zero _), fun l hl => ?_, fun l hl => ?_⟩
  · show updH _ _ _ l = _
    rw [updH_ne (by rintro rfl; omega)]
  · show updH _ _ _ l = _
    rw [updH_ne (by rintro rfl; omega)]
    exact hf l (by omega)
/-- Another object of the call's own changes. -/
theorem NInv.box {L : Loc} {sz : Nat} {row : (Nat → Loc) → Nat → List V} {szI : Nat} {m : Nat → Nat} {g : Nat → Nat → List V} {base : Heap} {cb n ck : Nat} {b : NA} (h : NInv L sz row szI m g base cb n ck b) {l0 : Loc} {o : AObj}
    (h1 : cb < l0.1) (h2 : l0.1 < ck) (h3 : L ≠ l0) (h4 : ∀ j, j < b.i → b.nu j ≠ l0) : NInv L sz row szI m g base cb n ck ⟨b.i, b.nu, updH b.H l0 o⟩ := by
  refine ⟨h.le, ?_, fun j hj => ?_, h.lo, h.hi, h.ne, h.inj, fun l hl => ?_, fun l hl => ?_⟩
  · show updH _ _ _ L = _
    rw [updH_ne h3]
    exact h.outer
  · show updH _ _ _ (b.nu j) = _
    rw [updH_ne (h4 j hj)]
    exact h.inner j hj
  · show updH _ _ _ l = _
    rw [updH_ne (by rintro rfl; omega)]
    exact h.base l hl
  · show updH _ _ _ l = _
    rw [updH_ne (by rintro rfl; omega)]
    exact h.free l hl
/-- The heap behind a round holds what is kept. -/
theorem hp_le2 {hp H : Heap} {l L : Loc} {X Y : AObj} (h1 : ∃ o, hp l = some o ∧ ObjLe o X) (h2 : ∃ o, hp L = some o ∧ ObjLe o Y) (h3 : ∀ l' o, l' ≠ l → l' ≠ L → H l' = some o → hp l' = some o) : HpLe hp (updH (updH H l X) L Y) := by
  intro l' o' h'
  by_cases e : l' = L
  · subst e; rw [updH_same] at h'; cases h'; exact h2
  · rw [updH_ne e] at h'
    by_cases e2 : l' = l
    · subst e2; rw [updH_same] at h'; cases h'; exact h1
    · rw [updH_ne e2] at h'
      exact ⟨o', h3 l' o' e2 e h', ObjLe.refl _⟩

theorem hp_le3 {hp H : Heap} {l1 l2 l3 : Loc} {A B C : AObj} (h1 : ∃ o, hp l1 = some o ∧ ObjLe o A) (h2 : ∃ o, hp l2 = some o ∧ ObjLe o B) (h3 : ∃ o, hp l3 = some o ∧ ObjLe o C) (h : ∀ l' o, l' ≠ l1 → l' ≠ l2 → l' ≠ l3 → H l' = some o → hp l' = some o) :
    HpLe hp (updH (updH (updH H l1 A) l2 B) l3 C) := by
  intro l' o' h'
  by_cases e3 : l' = l3
  · subst e3; rw [updH_same] at h'; cases h'; exact h3
  · rw [updH_ne e3] at h'
    by_cases e2 : l' = l2
    · subst e2; rw [updH_same] at h'; cases h'; exact h2
    · rw [updH_ne e2] at h'
      by_cases e1 : l' = l1
      · subst e1; rw [updH_same] at h'; cases h'; exact h1
      · rw [updH_ne e1] at h'
        exact ⟨o', h l' o' e1 e2 e3 h', ObjLe.refl _⟩

def updN (nu : Nat → Loc) (i : Nat) (l : Loc) : Nat → Loc := fun j => if j = i then l else nu j
theorem updN_same {nu : Nat → Loc} {i : Nat} {l : Loc} : updN nu i l i = l := if_pos rfl
theorem updN_ne {nu : Nat → Loc} {i j : Nat} {l : Loc} (h : j ≠ i) : updN nu i l j = nu j := if_neg h
/-- One row more. -/
theorem NInv.snoc {L : Loc} {sz : Nat} {row : (Nat → Loc) → Nat → List V} {szI : Nat} {m : Nat → Nat} {g : Nat → Nat → List V} {base : Heap} {cb n ck ck' : Nat} {b : NA} (h : NInv L sz row szI m g base cb n ck b) {l : Loc}
    (hin : b.i < n) (hl : ck ≤ l.1) (hl2 : l.1 < ck') (hL : cb < L.1) (hL2 : L.1 < ck) (hrow : ∀ nu nu' j, nu j = nu' j → row nu j = row nu' j) :
    NInv L sz row szI m g base cb n ck' ⟨b.i + 1, updN b.nu b.i l, updH (updH b.H l (.arr (m b.i) szI (g b.i))) L (.arr (b.i + 1) sz (row (updN b.nu b.i l)))⟩ := by
  have hcb : cb < l.1 := by omega
  have hlL : l ≠ L := fun e => by subst e; omega
  have hnl : ∀ j, j < b.i → b.nu j ≠ l := fun j hj e => by have := h.hi j hj; rw [e] at this; omega
  have key : ∀ j, j < b.i + 1 → (j < b.i ∧ updN b.nu b.i l j = b.nu j) ∨ (j = b.i ∧ updN b.nu b.i l j = l) := fun j hj => by
    by_cases e : j = b.i
    · exact .inr ⟨e, by subst e; exact updN_same⟩
    · exact .inl ⟨by omega, updN_ne e⟩
  refine ⟨Nat.succ_le_of_lt hin, updH_same _ _ _, fun j hj => ?_, fun j hj => ?_, fun j hj => ?_, fun j hj => ?_, fun j k hj hk e => ?_, fun l' hl' => ?_, fun l' hl' => ?_⟩
  · rcases key j hj with ⟨h1, h2⟩ | ⟨rfl, h2⟩
    · show updH _ _ _ (updN b.nu b.i l j) = _
      rw [h2, updH_ne (h.ne j h1), updH_ne (hnl j h1)]
      exact h.inner j h1
    · show updH _ _ _ (updN b.nu b.i l b.i) = _
      rw [h2, updH_ne hlL, updH_same]
  · show cb < (updN b.nu b.i l j).1
    rcases key j hj with ⟨h1, h2⟩ | ⟨rfl, h2⟩ <;> rw [h2]
    · exact h.lo j h1
    · exact hcb
  · show (updN b.nu b.i l j).1 < ck'
    rcases key j hj with ⟨h1, h2⟩ | ⟨rfl, h2⟩ <;> rw [h2]
    · have := h.hi j h1; omega
    · exact hl2
  · show updN b.nu b.i l j ≠ L
    rcases key j hj with ⟨h1, h2⟩ | ⟨rfl, h2⟩ <;> rw [h2]
    · exact h.ne j h1
    · exact hlL
  · have e' : updN b.nu b.i l j = updN b.nu b.i l k := e
    rcases key j hj with ⟨h1, h2⟩ | ⟨rfl, h2⟩ <;> rcases key k hk with ⟨h3, h4⟩ | ⟨rfl, h4⟩ <;> first | rw [h2, h4] at e' | skip
    · exact h.inj j k h1 h3 e'
    · exact absurd e' (hnl j h1)
    · exact absurd e'.symm (hnl k h3)
    · rfl
  · show updH _ _ _ l' = _
    rw [updH_ne (by rintro rfl; omega), updH_ne (by rintro rfl; omega)]
    exact h.base l' hl'
  · show updH _ _ _ l' = _
    rw [updH_ne (by rintro rfl; omega), updH_ne (by rintro rfl; omega)]
    exact h.free l' (by omega)

/-! ### Lists of lists that are written, and read out -/

theorem frzLe.refl {hp : Heap} : ∀ {l : List V}, frzLe hp l l
  | [] => trivial
  | _ :: l => ⟨.inr (.inl rfl), frzLe.refl (l := l)⟩
theorem frzLe.set {hp : Heap} {u v' : V} : ∀ {l l' : List V} {d : Nat}, frzLe hp l l' → l[d]? = some u → VEnt (frz 5 hp u) v' → frzLe hp l (l'.set d v')
  | [], [], d, h, hd, _ => by simp at hd
  | v :: l, w :: l', 0, h, hd, hv => by
    simp only [List.getElem?_cons_zero, Option.some.injEq] at hd
    subst hd
    exact ⟨.inr (.inr hv), h.2⟩
  | v :: l, w :: l', d + 1, h, hd, hv => ⟨h.1, frzLe.set h.2 (by simpa using hd) hv⟩
  | [], _ :: _, _, h, _, _ => h.elim
  | _ :: _, [], _, h, _, _ => h.elim

theorem frzM {n : Nat} {hp : Heap} {l : Loc} {len m sz : Nat} {get : Nat → List V} (h : hp l = some (.arr m sz get)) (hm : len = m) : frz (n + 1) hp (.msl l 0 len) = .sl len sz (fun i => frzRow (frz n hp) (get i)) := by
  have hnp : ¬ Pu (.msl l 0 len) := fun q => by cases q
  simp only [frz, if_neg hnp, h, Nat.zero_add, if_pos hm]
theorem frzI {n : Nat} {hp : Heap} {k : IntKind} {a : Int} : frz (n + 1) hp (.int k a) = .int k a := frz_pu (.int _ _)
/-- A row of a list that is being written. -/
def mixR (f g : Nat → List V) (b : Nat) (c : Nat) : List V := if c < b then f c else g c
theorem mixR_at {f g : Nat → List V} {b : Nat} : mixR f g b b = g b := if_neg (Nat.lt_irrefl b)
theorem mixR_zero {f g : Nat → List V} : mixR f g 0 = g := funext fun c => if_neg (Nat.not_lt_zero c)
theorem mixR_all {f g : Nat → List V} {m c : Nat} (h : c < m) : mixR f g m c = f c := if_pos h

theorem frz_air {H : Heap} {L : Loc} {n : Nat} {get : Nat → List V} {nu : Nat → Loc} {p : Int} (hL : H L = some (.arr n 5 (ownRow get nu))) (hN : ∀ j, j < n → H (nu j) = some (.arr (inN get j 4) 2 (thR get p j))) : VEnt (frz 5 H (.msl L 0 n)) (.sl n 5 (thG get p)) := by
  rw [frzM hL rfl]
  refine VEnt.sl fun i hi => ?_
  have hnp : ¬ ∀ v ∈ ownRow get nu i, Pu v := fun q => by
    have := q (.msl (nu i) 0 (inN get i 4)) (by simp [ownRow])
    cases this
  unfold frzRow
  rw [if_neg hnp]
  simp only [ownRow, List.map_cons, List.map_nil, frzI, frzM (hN i hi) rfl, thG]
  have : (fun c => frzRow (frz 3 H) (thR get p i c)) = thR get p i := funext fun c => frzRow_pu fun v hv => (ones2 v hv).1
  rw [this]
/-- A box whose last cell names a list of settings of the call's own. -/
theorem frz_quiet {H : Heap} {L l : Loc} {m : Nat} {gt : Nat → List V} {nu : Nat → Loc} {cs : List V} (hl : H l = some (.cells (cs ++ [.msl L 0 m]))) (hcs : ∀ v ∈ cs, Pu v) (hL : H L = some (.arr m 2 (ownSet gt nu))) (hN : ∀ j, j < m → H (nu j) = some (.arr (inN gt j 1) 1 (quR gt j))) :
    VEnt (frz 5 H (.ptr l 0)) (.cptr (cs ++ [.sl m 2 (quG gt)])) := by
  have hnp : ¬ Pu (.ptr l 0) := fun q => by cases q
  have hq : VEnt (frz 4 H (.msl L 0 m)) (.sl m 2 (quG gt)) := by
    rw [frzM hL rfl]
    refine VEnt.sl fun i hi => ?_
    have hnp : ¬ ∀ v ∈ ownSet gt nu i, Pu v := fun q => by
      have := q (.msl (nu i) 0 (inN gt i 1)) (by simp [ownSet])
      cases this
    unfold frzRow
    rw [if_neg hnp]
    simp only [ownSet, List.map_cons, List.map_nil, frzI, frzM (hN i hi) rfl, quG]
    have : (fun c => frzRow (frz 2 H) (quR gt i c)) = quR gt i := funext fun c => frzRow_pu fun v hv => (ones1 v hv).1
    rw [this]
  have e : ∀ X, frz 4 H (.msl L 0 m) = X → frz 5 H (.ptr l 0) = .cptr (cs ++ [X]) := by
    intro X hX
    have h1 : cs.map (frz 4 H) = cs := (List.map_congr_left fun v hv => frz_pu (hcs v hv)).trans (List.map_id cs)
    unfold frz
    rw [if_neg hnp]
    simp only [hl, List.drop_zero, List.map_append, List.map_cons, List.map_nil, hX, h1]
  rw [e _ rfl]
  intro k cv h
  cases h with
  | cptr _ b off x hM hb hp hc h =>
    have hR : ∀ (j : Nat) (v : V), (cs ++ [V.sl m 2 (quG gt)])[j]? = some v → ∃ u, (cs ++ [frz 4 H (.msl L 0 m)])[j]? = some u ∧ VEnt u v := fun j v hv => by
      by_cases hj : j < cs.length
      · rw [List.getElem?_append_left hj] at hv ⊢
        exact ⟨v, hv, VEnt.refl v⟩
      · rw [List.getElem?_append_right (by omega)] at hv ⊢
        cases hk : j - cs.length with
        | zero =>
          rw [hk] at hv
          simp only [List.getElem?_cons_zero, Option.some.injEq] at hv
          subst hv
          exact ⟨_, by first | rfl | (rw [hk]; rfl), hq⟩
        | succ q => rw [hk] at hv; simp at hv
    refine .cptr _ b off x hM hb (.cptr _ fun j v hv => ?_) (fun j hj => hc j (by simpa using hj)) fun j v hv => ?_
    · by_cases hj : j < cs.length
      · rw [List.getElem?_append_left hj] at hv
        exact hcs v (List.mem_of_getElem? hv)
      · rw [List.getElem?_append_right (by omega)] at hv
        cases hk : j - cs.length with
        | zero =>
          rw [hk] at hv
          simp only [List.getElem?_cons_zero, Option.some.injEq] at hv
          subst hv
          exact .sl _ _ _ fun i j v hi hv => by
            rcases j with _ | _ | j
            · simp [quG] at hv; subst hv; exact .int _ _
            · simp [quG] at hv; subst hv
              exact .sl _ _ _ fun i j v hi hv => by
                rcases j with _ | j
                · simp [quR] at hv; subst hv; exact .int _ _
                · simp [quR] at hv
            · simp [quG] at hv
        | succ q => rw [hk] at hv; simp at hv
    · obtain ⟨u, h1, h2⟩ := hR j v hv
      exact h2 _ _ (h j u h1)
theorem mixR_succ {f g : Nat → List V} {k c : Nat} : mixR f g (k + 1) c = if c = k then f k else mixR f g k c := by
  unfold mixR
  by_cases e : c = k
  · subst e; rw [if_pos (Nat.lt_succ_self c), if_pos rfl]
  · rw [if_neg e]
    by_cases h : c < k
    · rw [if_pos h, if_pos (by omega)]
    · rw [if_neg h, if_neg (by omega)]
theorem HpLe.same {hp : Heap} {l : Loc} {a b : AObj} (h : ObjLe a b) : HpLe (updH hp l a) (updH hp l b) := by
  intro l' o' h'
  by_cases e : l' = l
  · subst e
    rw [updH_same] at h' ⊢
    cases h'
    exact ⟨a, rfl, h⟩
  · rw [updH_ne e] at h' ⊢
    exact ⟨o', h', ObjLe.refl _⟩
end Go.Fly
end
section
/- Contracts of walls, tables and what they screen. -/
namespace Go.Fly
open Go

/-- A valid wall. -/
structure WallOk (nm : List UInt8) (ax ay bx ky h ec : Int) : Prop where
  name : nameB nm = true
  p1 : -1000 ≤ ax ∧ ax ≤ 1000
  p2 : -1000 ≤ ay ∧ ay ≤ 1000
  p3 : -1000 ≤ bx ∧ bx ≤ 1000
  p4 : -1000 ≤ ky ∧ ky ≤ 1000
  two : ¬ (ax = bx ∧ ay = ky)
  high : 1 ≤ h ∧ h ≤ 1000
  echo : 0 ≤ ec ∧ ec ≤ 1000
def SpotOk (x y z : Int) : Prop := (-1000 ≤ x ∧ x ≤ 1000) ∧ (-1000 ≤ y ∧ y ≤ 1000) ∧ 0 ≤ z ∧ z ≤ 1000
structure WallsOk (n : Nat) (get : Nat → List V) : Prop where
  cnt : n ≤ 32
  wall : ∀ i, i < n → WallOk (wName get i) (cell get i 1) (cell get i 2) (cell get i 3) (cell get i 4) (cell get i 5) (cell get i 6)
  two : ∀ i k, i < n → k < i → wName get k ≠ wName get i

def point2E (x y : Int) : Int := firstL [rng x (-1000) 1000, rng y (-1000) 1000]
def spotE (x y z : Int) : Int := firstL [point2E x y, rng z 0 1000]
theorem point2E_zero {x y : Int} : point2E x y = 0 ↔ (-1000 ≤ x ∧ x ≤ 1000) ∧ -1000 ≤ y ∧ y ≤ 1000 := by
  unfold point2E; rw [firstL_zero]; simp [rng_zero]
theorem spotE_zero {x y z : Int} : spotE x y z = 0 ↔ SpotOk x y z := by
  unfold spotE SpotOk; rw [firstL_zero]; simp [rng_zero, point2E_zero, and_assoc]
def wallE (nm : List UInt8) (ax ay bx ky h ec : Int) : Int :=
  firstL [err (!nameB nm) 8, point2E ax ay, point2E bx ky, err (decide (ax = bx) && decide (ay = ky)) 24, rng h 1 1000, rng ec 0 1000]
theorem wallE_zero {nm : List UInt8} {ax ay bx ky h ec : Int} : wallE nm ax ay bx ky h ec = 0 ↔ WallOk nm ax ay bx ky h ec := by
  unfold wallE; rw [firstL_zero]
  simp only [List.mem_cons, List.not_mem_nil, or_false, forall_eq_or_imp, forall_eq, point2E_zero, rng_zero, err_zero (show (8 : Int) ≠ 0 by decide), err_zero (show (24 : Int) ≠ 0 by decide), Bool.not_eq_false', Bool.and_eq_false_iff, decide_eq_false_iff_not]
  constructor
  · rintro ⟨h1, ⟨h2, h3⟩, ⟨h4, h5⟩, h6, h7, h8⟩
    exact ⟨h1, h2, h3, h4, h5, fun q => h6.elim (fun h => h q.1) (fun h => h q.2), h7, h8⟩
  · rintro ⟨h1, h2, h3, h4, h5, h6, h7, h8⟩
    refine ⟨h1, ⟨h2, h3⟩, ⟨h4, h5⟩, ?_, h7, h8⟩
    by_cases e : ax = bx
    · exact .inr fun q => h6 ⟨e, q⟩
    · exact .inl e
def wAt (get : Nat → List V) (i : Nat) : Int := wallE (wName get i) (cell get i 1) (cell get i 2) (cell get i 3) (cell get i 4) (cell get i 5) (cell get i 6)
def dupB (get : Nat → List V) (i : Nat) : Bool := decide (∃ k, k < i ∧ wName get k = wName get i)
def wallsAt (get : Nat → List V) (i : Nat) : Int := if wAt get i ≠ 0 then wAt get i else err (dupB get i) 9
def wallsE (n : Nat) (get : Nat → List V) : Int := if 32 < n then 5 else firstI (wallsAt get) 0 n
theorem wallsE_zero {n : Nat} {get : Nat → List V} : wallsE n get = 0 ↔ WallsOk n get := by
  unfold wallsE
  by_cases hn : 32 < n
  · rw [if_pos hn]
    exact ⟨fun h => by omega, fun h => absurd h.cnt (by omega)⟩
  · rw [if_neg hn, firstI_zero]
    have hat : ∀ i, wallsAt get i = 0 ↔ wAt get i = 0 ∧ dupB get i = false := fun i => by
      unfold wallsAt
      by_cases h : wAt get i = 0
      · simp only [h, ne_eq, not_true_eq_false, if_false, err_zero (show (9 : Int) ≠ 0 by decide), true_and]
      · simp only [ne_eq, h, not_false_eq_true, if_true, false_and]
    constructor
    · intro h
      refine ⟨by omega, fun i hi => wallE_zero.1 ((hat i).1 (h i (Nat.zero_le _) (by omega))).1, fun i k hi hk e => ?_⟩
      have := ((hat i).1 (h i (Nat.zero_le _) (by omega))).2
      unfold dupB at this
      simp only [decide_eq_false_iff_not] at this
      exact this ⟨k, hk, e⟩
    · intro h i _ hi
      refine (hat i).2 ⟨wallE_zero.2 (h.wall i (by omega)), ?_⟩
      unfold dupB
      simp only [decide_eq_false_iff_not]
      rintro ⟨k, hk, e⟩
      exact h.two i k (by omega) hk e
def tabAt (get : Nat → List V) (i : Nat) : Int :=
  if firstL [rng (cell get i 0) 1 1000000, rng (cell get i 1) 0 1000] ≠ 0 then firstL [rng (cell get i 0) 1 1000000, rng (cell get i 1) 0 1000]
  else err (decide (0 < i) && (decide (cell get i 0 ≤ cell get (i - 1) 0) || decide (cell get (i - 1) 1 < cell get i 1))) 11
def tableE (n : Nat) (get : Nat → List V) : Int := if n = 0 then 12 else if 16 < n then 5 else firstI (tabAt get) 0 n
theorem tableE_zero {n : Nat} {get : Nat → List V} (h : tableE n get = 0) : TabOk2 n get := by
  unfold tableE at h
  by_cases h0 : n = 0
  · rw [if_pos h0] at h; omega
  · rw [if_neg h0] at h
    by_cases h1 : 16 < n
    · rw [if_pos h1] at h; omega
    · rw [if_neg h1, firstI_zero] at h
      have hat : ∀ i, i < n → (1 ≤ cell get i 0 ∧ cell get i 0 ≤ 1000000) ∧ (0 ≤ cell get i 1 ∧ cell get i 1 ≤ 1000) ∧ (0 < i → cell get (i - 1) 0 < cell get i 0 ∧ cell get i 1 ≤ cell get (i - 1) 1) := fun i hi => by
        have := h i (Nat.zero_le _) (by omega)
        unfold tabAt at this
        by_cases q : firstL [rng (cell get i 0) 1 1000000, rng (cell get i 1) 0 1000] = 0
        · simp only [q, ne_eq, not_true_eq_false, if_false, err_zero (show (11 : Int) ≠ 0 by decide), Bool.and_eq_false_iff, Bool.or_eq_false_iff, decide_eq_false_iff_not] at this
          rw [firstL_zero] at q
          simp only [List.mem_cons, List.not_mem_nil, or_false, forall_eq_or_imp, forall_eq, rng_zero] at q
          refine ⟨q.1, q.2, fun hi0 => ?_⟩
          rcases this with h | h
          · exact absurd hi0 h
          · omega
        · simp only [ne_eq, q, not_false_eq_true, if_true] at this
      exact ⟨by omega, fun i hi => (hat i hi).1, fun i hi => (hat i hi).2.1, fun i hi => by have := (hat (i + 1) hi).2.2 (by omega); simpa using this.1, fun i hi => by have := (hat (i + 1) hi).2.2 (by omega); simpa using this.2⟩

/-! ### Contracts -/

def nanC : Contract := fun _ args =>
  match args with
  | [.int .i64 _] => ⟨True, .bool false, none⟩
  | _ => ⟨False, .top, none⟩
def absC : Contract := fun _ args =>
  match args with
  | [.int .i64 n] => ⟨-4000000000000000000 ≤ n ∧ n ≤ 4000000000000000000, .int .i64 (absE n), none⟩
  | _ => ⟨False, .top, none⟩
def placeC (sel : Int → Int → Int → Int → Int) : Contract := fun _ args =>
  match args with
  | [.agg [.str nm, .int .i64 ax, .int .i64 ay, .int .i64 bx, .int .i64 ky, .int .i64 h, .int .i64 ec]] => ⟨True, .int .i64 (sel ax ay bx ky), none⟩
  | _ => ⟨False, .top, none⟩
theorem firstL_nest (a b c : Int) : firstL [a, b, c] = firstL [firstL [a, b], c] := by
  simp only [firstL]
  by_cases h1 : a = 0 <;> by_cases h2 : b = 0 <;> simp [h1, h2]
theorem spotE3 (x y z : Int) : firstL [rng x (-1000) 1000, rng y (-1000) 1000, rng z 0 1000] = spotE x y z := by
  unfold spotE point2E; exact firstL_nest _ _ _
def cmpE (x y : Int) : Int := if x < y then -1 else if y < x then 1 else 0
def cmpC : Contract := fun _ args =>
  match args with
  | [.int .i64 x, .int .i64 y] => ⟨True, .int .i64 (cmpE x y), none⟩
  | _ => ⟨False, .top, none⟩
def point2C : Contract := fun _ args =>
  match args with
  | [.agg [.int .i64 x, .int .i64 y]] => ⟨True, .int .i64 (point2E x y), none⟩
  | _ => ⟨False, .top, none⟩
def spotC : Contract := fun _ args =>
  match args with
  | [.agg [.int .i64 x, .int .i64 y, .int .i64 z]] => ⟨True, .int .i64 (spotE x y z), none⟩
  | _ => ⟨False, .top, none⟩
def planC : Contract := fun _ args =>
  match args with
  | [.agg [.int .i64 x, .int .i64 y, .int .i64 z]] => ⟨True, .agg [.int .i64 x, .int .i64 y], none⟩
  | _ => ⟨False, .top, none⟩
def spots2C : Contract := fun _ args =>
  match args with
  | [.agg [.int .i64 x, .int .i64 y, .int .i64 z], .agg [.int .i64 u, .int .i64 v, .int .i64 w]] => ⟨True, .int .i64 (firstL [spotE x y z, spotE u v w]), none⟩
  | _ => ⟨False, .top, none⟩
def chkNameC : Contract := fun _ args =>
  match args with
  | [.str s] => ⟨s.length ≤ 9223372036854775807, .int .i64 (err (!nameB s) 8), none⟩
  | _ => ⟨False, .top, none⟩
def wallC : Contract := fun _ args =>
  match args with
  | [.agg [.str nm, .int .i64 ax, .int .i64 ay, .int .i64 bx, .int .i64 ky, .int .i64 h, .int .i64 ec]] => ⟨nm.length ≤ 9223372036854775807, .int .i64 (wallE nm ax ay bx ky h ec), none⟩
  | _ => ⟨False, .top, none⟩
def wallsC : Contract := fun _ args =>
  match args with
  | [.sl n sz get] => ⟨sz = 7 ∧ IsWalls n get, .int .i64 (wallsE n get), none⟩
  | _ => ⟨False, .top, none⟩
/-- The check of valid walls. -/
def wallsOkC : Contract := fun _ args =>
  match args with
  | [.sl n sz get] => ⟨sz = 7 ∧ IsWalls n get ∧ WallsOk n get, .int .i64 0, none⟩
  | _ => ⟨False, .top, none⟩
def wallOkC : Contract := fun _ args =>
  match args with
  | [.agg [.str nm, .int .i64 ax, .int .i64 ay, .int .i64 bx, .int .i64 ky, .int .i64 h, .int .i64 ec]] => ⟨nm.length ≤ 9223372036854775807 ∧ WallOk nm ax ay bx ky h ec, .int .i64 0, none⟩
  | _ => ⟨False, .top, none⟩
def shortWallsB (n : Nat) (get : Nat → List V) : Bool := (decide (n ≤ 5) || decide (n = 33)) && decide (∀ i, i < n → (wName get i).length ≤ 40)
def shortWallsC : Contract := fun _ args =>
  match args with
  | [.sl n sz get] => ⟨sz = 7 ∧ IsWalls n get, .bool (shortWallsB n get), none⟩
  | _ => ⟨False, .top, none⟩
def tableC : Contract := fun _ args =>
  match args with
  | [.sl n sz get] => ⟨sz = 2 ∧ IsIv n get, .int .i64 (tableE n get), none⟩
  | _ => ⟨False, .top, none⟩
def tableOkC : Contract := fun _ args =>
  match args with
  | [.sl n sz get] => ⟨sz = 2 ∧ IsIv n get ∧ TabOk2 n get, .int .i64 0, none⟩
  | _ => ⟨False, .top, none⟩
def wholeC : Contract := fun _ args =>
  match args with
  | [.agg [.int .i64 x, .int .i64 y, .int .i64 z]] => ⟨True, .agg [.int .i64 x, .int .i64 y, .int .i64 z, .int .i64 1], none⟩
  | _ => ⟨False, .top, none⟩
def wsideC : Contract := fun _ args =>
  match args with
  | [.agg [.str nm, .int .i64 ax, .int .i64 ay, .int .i64 bx, .int .i64 ky, .int .i64 h, .int .i64 ec], .agg [.int .i64 px, .int .i64 py, .int .i64 pz, .int .i64 den]] =>
    ⟨WallOk nm ax ay bx ky h ec ∧ 0 < den ∧ den ≤ 20000000 ∧ (-(1000 * den) ≤ px ∧ px ≤ 1000 * den) ∧ (-(1000 * den) ≤ py ∧ py ≤ 1000 * den), .int .i64 (sideE ax ay bx ky px py den), none⟩
  | _ => ⟨False, .top, none⟩
def besideC : Contract := fun _ args =>
  match args with
  | [.agg [.int .i64 sx, .int .i64 sy, .int .i64 sz], .agg [.int .i64 tx, .int .i64 ty, .int .i64 tz, .int .i64 den], .agg [.int .i64 px, .int .i64 py]] =>
    ⟨0 < den ∧ den ≤ 20000000 ∧ (-5000 ≤ sx ∧ sx ≤ 5000) ∧ (-5000 ≤ sy ∧ sy ≤ 5000) ∧ (-(1000 * den) ≤ tx ∧ tx ≤ 1000 * den) ∧ (-(1000 * den) ≤ ty ∧ ty ≤ 1000 * den) ∧ (-1000 ≤ px ∧ px ≤ 1000) ∧ (-1000 ≤ py ∧ py ≤ 1000),
      .int .i64 (besideE sx sy tx ty den px py), none⟩
  | _ => ⟨False, .top, none⟩
def upC : Contract := fun _ args =>
  match args with
  | [.agg [.int .i64 a, .int .i64 b]] => ⟨0 ≤ a ∧ a ≤ 1000000000000000000 ∧ 0 < b, .int .i64 (ceilE a b), none⟩
  | _ => ⟨False, .top, none⟩
def excessC : Contract := fun _ args =>
  match args with
  | [.agg [.str nm, .int .i64 ax, .int .i64 ay, .int .i64 bx, .int .i64 ky, .int .i64 h, .int .i64 ec], .agg [.int .i64 sx, .int .i64 sy, .int .i64 sz], .agg [.int .i64 tx, .int .i64 ty, .int .i64 tz, .int .i64 den]] =>
    ⟨WallOk nm ax ay bx ky h ec ∧ SpotOk sx sy sz ∧ 0 < den ∧ den ≤ 20000000 ∧ (-(1000 * den) ≤ tx ∧ tx ≤ 1000 * den) ∧ (-(1000 * den) ≤ ty ∧ ty ≤ 1000 * den) ∧ 0 ≤ tz ∧ tz ≤ 1000 * den,
      .tup [.agg [.int .i64 (if cutB ax ay bx ky sx sy tx ty den = true then excNum ax ay bx ky h sx sy sz tx ty tz den else 0), .int .i64 (if cutB ax ay bx ky sx sy tx ty den = true then excDen ax ay bx ky sx sy tx ty den else 0)],
        .bool (excB ax ay bx ky h sx sy sz tx ty tz den)], none⟩
  | _ => ⟨False, .top, none⟩
def lengthC : Contract := fun _ args =>
  match args with
  | [.int .i64 sq] => ⟨0 ≤ sq ∧ sq ≤ 1000000000000, .agg [.int .i64 (lenLo sq), .int .i64 (lenHi sq)], none⟩
  | _ => ⟨False, .top, none⟩
def length2C : Contract := fun _ args =>
  match args with
  | [.int .i64 sq] => ⟨0 ≤ sq ∧ sq ≤ 20000000, .tup [.agg [.int .i64 (lenLo sq), .int .i64 (lenHi sq)], .int .i64 0], none⟩
  | _ => ⟨False, .top, none⟩
def apartC : Contract := fun _ args =>
  match args with
  | [.agg [.int .i64 x, .int .i64 y, .int .i64 z], .agg [.int .i64 u, .int .i64 v, .int .i64 w]] => ⟨SpotOk x y z ∧ SpotOk u v w, .int .i64 (apartE x y z u v w), none⟩
  | _ => ⟨False, .top, none⟩
def detourC : Contract := fun _ args =>
  match args with
  | [.agg [.int .i64 x, .int .i64 y, .int .i64 z], .agg [.int .i64 ex, .int .i64 ey, .int .i64 ez], .agg [.int .i64 u, .int .i64 v, .int .i64 w]] => ⟨SpotOk x y z ∧ SpotOk ex ey ez ∧ SpotOk u v w,
      .agg [.int .i64 (detLo x y z ex ey ez u v w), .int .i64 (detHi x y z ex ey ez u v w)], none⟩
  | _ => ⟨False, .top, none⟩
def depthC : Contract := fun _ args =>
  match args with
  | [.agg [.str nm, .int .i64 ax, .int .i64 ay, .int .i64 bx, .int .i64 ky, .int .i64 h, .int .i64 ec], .agg [.int .i64 sx, .int .i64 sy, .int .i64 sz], .agg [.int .i64 rx, .int .i64 ry, .int .i64 rz]] =>
    ⟨WallOk nm ax ay bx ky h ec ∧ SpotOk sx sy sz ∧ SpotOk rx ry rz, .int .i64 (depthE ax ay bx ky h sx sy sz rx ry rz), none⟩
  | _ => ⟨False, .top, none⟩
def capDepthC : Contract := fun _ args =>
  match args with
  | [.agg [.str nm, .int .i64 ax, .int .i64 ay, .int .i64 bx, .int .i64 ky, .int .i64 h, .int .i64 ec], .cptr [.int .i64 sx, .int .i64 sy, .int .i64 sz], .cptr [.int .i64 rx, .int .i64 ry, .int .i64 rz]] =>
    ⟨WallOk nm ax ay bx ky h ec ∧ SpotOk sx sy sz ∧ SpotOk rx ry rz, .int .i64 (depthE ax ay bx ky h sx sy sz rx ry rz), none⟩
  | _ => ⟨False, .top, none⟩
def mapDepthC (g1 : FuncId) : Contract := fun _ args =>
  match args with
  | [.sl n sz get, .fn (.func g) [] [.cptr [.int .i64 sx, .int .i64 sy, .int .i64 sz'], .cptr [.int .i64 rx, .int .i64 ry, .int .i64 rz]]] =>
    ⟨sz = 7 ∧ IsWalls n get ∧ WallsOk n get ∧ g = g1 ∧ SpotOk sx sy sz' ∧ SpotOk rx ry rz, .sl n 1 (fun i => [.int .i64 (wDepth get sx sy sz' rx ry rz i)]), none⟩
  | _ => ⟨False, .top, none⟩
def depthsC : Contract := fun _ args =>
  match args with
  | [.sl n sz get, .agg [.int .i64 sx, .int .i64 sy, .int .i64 sz'], .agg [.int .i64 rx, .int .i64 ry, .int .i64 rz]] =>
    ⟨sz = 7 ∧ IsWalls n get ∧ WallsOk n get ∧ SpotOk sx sy sz' ∧ SpotOk rx ry rz, .tup [.sl n 1 (fun i => [.int .i64 (wDepth get sx sy sz' rx ry rz i)]), .int .i64 (sumI (wDepth get sx sy sz' rx ry rz) n)], none⟩
  | _ => ⟨False, .top, none⟩
def factorC : Contract := fun _ args =>
  match args with
  | [.sl n sz get, .int .i64 d] => ⟨sz = 2 ∧ IsIv n get ∧ TabOk2 n get, .int .i64 (facE get d n), none⟩
  | _ => ⟨False, .top, none⟩
def timesC : Contract := fun _ args =>
  match args with
  | [.int .i64 e, .int .i64 f] => ⟨0 ≤ e ∧ e ≤ 10000000000000 ∧ 0 ≤ f ∧ f ≤ 1000, .agg [.int .i64 (scrLo e f), .int .i64 (scrHi e f)], none⟩
  | _ => ⟨False, .top, none⟩
/-- What is left of an energy behind walls. -/
def scrF (n : Nat) (get : Nat → List V) (nt : Nat) (gt : Nat → List V) (sx sy sz rx ry rz : Int) : Int := facE gt (sumI (wDepth get sx sy sz rx ry rz) n) nt
def heardOkC : Contract := fun _ args =>
  match args with
  | [.sl n sz get, .sl nt st gt, .agg [.int .i64 sx, .int .i64 sy, .int .i64 sz', .int .i64 rx, .int .i64 ry, .int .i64 rz], .int .i64 e] =>
    ⟨sz = 7 ∧ IsWalls n get ∧ WallsOk n get ∧ st = 2 ∧ IsIv nt gt ∧ TabOk2 nt gt ∧ SpotOk sx sy sz' ∧ SpotOk rx ry rz ∧ 0 ≤ e ∧ e ≤ 10000000000000, .int .i64 0, none⟩
  | _ => ⟨False, .top, none⟩
def screenC : Contract := fun _ args =>
  match args with
  | [.sl n sz get, .sl nt st gt, .agg [.int .i64 sx, .int .i64 sy, .int .i64 sz', .int .i64 rx, .int .i64 ry, .int .i64 rz], .int .i64 e] =>
    ⟨sz = 7 ∧ IsWalls n get ∧ WallsOk n get ∧ st = 2 ∧ IsIv nt gt ∧ TabOk2 nt gt ∧ SpotOk sx sy sz' ∧ SpotOk rx ry rz ∧ 0 ≤ e ∧ e ≤ 10000000000000,
      .agg [.int .i64 (scrLo e (scrF n get nt gt sx sy sz' rx ry rz)), .int .i64 (scrHi e (scrF n get nt gt sx sy sz' rx ry rz))], none⟩
  | _ => ⟨False, .top, none⟩
def screen2C : Contract := fun _ args =>
  match args with
  | [.sl n sz get, .sl nt st gt, .agg [.int .i64 sx, .int .i64 sy, .int .i64 sz', .int .i64 rx, .int .i64 ry, .int .i64 rz], .int .i64 e] =>
    ⟨sz = 7 ∧ IsWalls n get ∧ WallsOk n get ∧ st = 2 ∧ IsIv nt gt ∧ TabOk2 nt gt ∧ SpotOk sx sy sz' ∧ SpotOk rx ry rz ∧ 0 ≤ e ∧ e ≤ 10000000000000,
      .tup [.agg [.int .i64 (scrLo e (scrF n get nt gt sx sy sz' rx ry rz)), .int .i64 (scrHi e (scrF n get nt gt sx sy sz' rx ry rz))], .int .i64 0], none⟩
  | _ => ⟨False, .top, none⟩
attribute [go_sem] nanC absC placeC cmpC point2C spotC planC spots2C chkNameC wallC wallsC wallsOkC wallOkC shortWallsC tableC tableOkC wholeC wsideC besideC upC excessC lengthC length2C apartC detourC depthC capDepthC mapDepthC depthsC factorC timesC heardOkC screenC screen2C
end Go.Fly
end
section
/- Airs with opposite winds; how paths are bent. -/
namespace Go.Fly
open Go

def leftE (sp ax ay : Int) : Int := if sp < 0 then -(sp * sp * (ax * ax + ay * ay)) else sp * sp * (ax * ax + ay * ay)
def rightE (w : Int) : Int := if w < 0 then -(w * w) else w * w
/-- Which of two layers is the faster one, along a direction. -/
def fastE (sp wx wy ax ay : Int) : Int := cmpE (leftE sp ax ay + rightE (wx * ax + wy * ay)) 0
def bentE (n : Nat) (get : Nat → List V) (a b c d e f : Int) : Int :=
  if botE get (atE n get (max c f)).toNat = botE get (atE n get (min c f)).toNat ∨ (d - a = 0 ∧ e - b = 0) then 0
  else fastE (cell get (atE n get (max c f)).toNat 1 - cell get (atE n get (min c f)).toNat 1) (cell get (atE n get (max c f)).toNat 2 - cell get (atE n get (min c f)).toNat 2)
    (cell get (atE n get (max c f)).toNat 3 - cell get (atE n get (min c f)).toNat 3) (d - a) (e - b)
/-- The same air with the opposite winds. -/
def revG (get : Nat → List V) (i : Nat) : List V :=
  [.int .i64 (cell get i 0), .int .i64 (cell get i 1), .int .i64 (-cell get i 2), .int .i64 (-cell get i 3), .sl (inN get i 4) 2 (inG get i 4)]
theorem isAir_rev {n : Nat} {get : Nat → List V} (h : IsAir n get) : IsAir n (revG get) := ⟨h.1, fun i hi => ⟨rfl, (h.2 i hi).2⟩⟩
theorem airE_rev {n : Nat} {get : Nat → List V} (h : airE n get = 0) : airE n (revG get) = 0 := by
  have hok := airE_ok h
  unfold airE at h ⊢
  have h0 : airE0 n = 0 := airE0_zero.2 hok.cnt
  simp only [h0, ne_eq, not_true_eq_false, if_false] at h ⊢
  rw [firstI_zero] at h ⊢
  intro i hi hi2
  have hl := h i hi hi2
  have e : layAt (revG get) i (inN (revG get) 0 4) = layerE (cell get i 0) (cell get i 1) (-cell get i 2) (-cell get i 3) (inN get i 4) (inG get i 4) (inN get 0 4) := rfl
  have e2 : layAt get i (inN get 0 4) = layerE (cell get i 0) (cell get i 1) (cell get i 2) (cell get i 3) (inN get i 4) (inG get i 4) (inN get 0 4) := rfl
  rw [e]
  rw [e2] at hl
  have hz := layerE_zero hl
  unfold layerE at hl ⊢
  by_cases h1 : layerE1 (cell get i 0) (cell get i 1) (cell get i 2) (cell get i 3) = 0
  · have h2 : layerE2 (inN get i 4) (inN get 0 4) = 0 := layerE2_zero.2 ⟨hz.2.1, hz.2.2.1, hz.2.2.2.1⟩
    have h3 : layerE1 (cell get i 0) (cell get i 1) (-cell get i 2) (-cell get i 3) = 0 := by
      unfold layerE1 at h1 ⊢
      rw [firstL_zero] at h1 ⊢
      simp only [List.mem_cons, List.not_mem_nil, or_false, forall_eq_or_imp, forall_eq, rng_zero] at h1 ⊢
      omega
    simp only [h1, h2, h3, ne_eq, not_true_eq_false, if_false] at hl ⊢
    exact hl
  · simp only [ne_eq, h1, not_false_eq_true, if_true] at hl
theorem neg_mul_neg' (a b : Int) : -a * -b = a * b := Int.neg_mul_neg a b
theorem fast_neg (sp wx wy ax ay : Int) : fastE sp (-wx) (-wy) (-ax) (-ay) = fastE sp wx wy ax ay := by
  unfold fastE leftE rightE
  simp only [Int.neg_mul_neg]
theorem at_congr {n : Nat} {get get' : Nat → List V} (h : ∀ j, cell get' j 0 = cell get j 0) (z : Int) : atE n get' z = atE n get z := by
  unfold atE
  exact idxF_congr fun j _ _ => by rw [top_congr fun j _ => h j]
theorem bent_rev {n : Nat} {get : Nat → List V} (a b c d e f : Int) : bentE n (revG get) d e f a b c = bentE n get a b c d e f := by
  have hc : ∀ j, cell (revG get) j 0 = cell get j 0 := fun _ => rfl
  unfold bentE
  rw [at_congr hc, at_congr hc, bot_congr (get' := revG get) (get := get) fun j _ => hc j, bot_congr (get' := revG get) (get := get) fun j _ => hc j, Int.max_comm f c, Int.min_comm f c]
  generalize (atE n get (max c f)).toNat = i
  generalize (atE n get (min c f)).toNat = j
  have e1 : ∀ k, cell (revG get) k 1 = cell get k 1 := fun _ => rfl
  have e2 : ∀ k, cell (revG get) k 2 = -cell get k 2 := fun _ => rfl
  have e3 : ∀ k, cell (revG get) k 3 = -cell get k 3 := fun _ => rfl
  rw [e1, e1, e2, e2, e3, e3]
  have h2 : -cell get i 2 - -cell get j 2 = -(cell get i 2 - cell get j 2) := by omega
  have h3 : -cell get i 3 - -cell get j 3 = -(cell get i 3 - cell get j 3) := by omega
  rw [h2, h3, show a - d = -(d - a) by omega, show b - e = -(e - b) by omega, fast_neg]
  have hz : (-(d - a) = 0 ∧ -(e - b) = 0) ↔ (d - a = 0 ∧ e - b = 0) := by omega
  simp only [hz]

/-! ### Contracts -/

def ownLayC : Contract := fun _ args =>
  match args with
  | [.agg [.int .i64 th, .int .i64 sp, .int .i64 wx, .int .i64 wy, .sl m sz g]] => ⟨sz = 2 ∧ IsIv m g ∧ m ≤ 1000000, .agg [.int .i64 th, .int .i64 sp, .int .i64 wx, .int .i64 wy, .sl m 2 g], none⟩
  | _ => ⟨False, .top, none⟩
def revLayC : Contract := fun _ args =>
  match args with
  | [.agg [.int .i64 th, .int .i64 sp, .int .i64 wx, .int .i64 wy, .sl m sz g]] => ⟨sz = 2 ∧ IsIv m g ∧ m ≤ 1000000 ∧ (-1000 ≤ wx ∧ wx ≤ 1000) ∧ (-1000 ≤ wy ∧ wy ≤ 1000), .agg [.int .i64 th, .int .i64 sp, .int .i64 (-wx), .int .i64 (-wy), .sl m 2 g], none⟩
  | _ => ⟨False, .top, none⟩
def mapRevC (g1 : FuncId) : Contract := fun _ args =>
  match args with
  | [.sl n sz get, .fn (.func g) [] []] => ⟨sz = 5 ∧ IsAir n get ∧ g = g1 ∧ n ≤ 8 ∧ ∀ i, i < n → inN get i 4 ≤ 8 ∧ (-1000 ≤ cell get i 2 ∧ cell get i 2 ≤ 1000) ∧ (-1000 ≤ cell get i 3 ∧ cell get i 3 ≤ 1000), .sl n 5 (revG get), none⟩
  | _ => ⟨False, .top, none⟩
def reversed2C : Contract := fun _ args =>
  match args with
  | [.sl n sz get] => ⟨sz = 5 ∧ IsAir n get ∧ airE n get = 0, .tup [.sl n 5 (revG get), .int .i64 0], none⟩
  | _ => ⟨False, .top, none⟩
def fastC : Contract := fun _ args =>
  match args with
  | [.agg [.int .i64 th, .int .i64 sp, .int .i64 wx, .int .i64 wy, .sl m sz g], .agg [.int .i64 th2, .int .i64 sp2, .int .i64 wx2, .int .i64 wy2, .sl m2 sz2 g2], .agg [.int .i64 ax, .int .i64 ay]] =>
    ⟨Pu (.sl m sz g) ∧ Pu (.sl m2 sz2 g2) ∧ (-2000 ≤ sp - sp2 ∧ sp - sp2 ≤ 2000) ∧ (-2000 ≤ sp ∧ sp ≤ 2000) ∧ (-2000 ≤ sp2 ∧ sp2 ≤ 2000) ∧ (-100 ≤ wx ∧ wx ≤ 100) ∧ (-100 ≤ wy ∧ wy ≤ 100) ∧ (-100 ≤ wx2 ∧ wx2 ≤ 100) ∧ (-100 ≤ wy2 ∧ wy2 ≤ 100) ∧ (-20000 ≤ ax ∧ ax ≤ 20000) ∧ (-20000 ≤ ay ∧ ay ≤ 20000),
      .int .i64 (fastE (sp - sp2) (wx - wx2) (wy - wy2) ax ay), none⟩
  | _ => ⟨False, .top, none⟩
def bentC : Contract := fun _ args =>
  match args with
  | [.sl n sz get, .agg [.int .i64 a, .int .i64 b, .int .i64 c, .int .i64 d, .int .i64 e, .int .i64 f]] => ⟨sz = 5 ∧ IsAir n get ∧ airE n get = 0 ∧ PathOk a b c d e f, .int .i64 (bentE n get a b c d e f), none⟩
  | _ => ⟨False, .top, none⟩
def bent2C : Contract := fun _ args =>
  match args with
  | [.sl n sz get, .agg [.int .i64 a, .int .i64 b, .int .i64 c, .int .i64 d, .int .i64 e, .int .i64 f]] => ⟨sz = 5 ∧ IsAir n get ∧ airE n get = 0 ∧ PathOk a b c d e f, .tup [.int .i64 (bentE n get a b c d e f), .int .i64 0], none⟩
  | _ => ⟨False, .top, none⟩
attribute [go_sem] ownLayC revLayC mapRevC reversed2C fastC bentC bent2C
end Go.Fly
end
section
/- Bounds of sides, lengths and depths. -/
namespace Go.Fly
open Go

theorem side_bd {ax ay bx ky px py den : Int} (h1 : -1000 ≤ ax ∧ ax ≤ 1000) (h2 : -1000 ≤ ay ∧ ay ≤ 1000) (h3 : -1000 ≤ bx ∧ bx ≤ 1000) (h4 : -1000 ≤ ky ∧ ky ≤ 1000)
    (h5 : 0 < den) (h6 : den ≤ 20000000) (h7 : -(1000 * den) ≤ px ∧ px ≤ 1000 * den) (h8 : -(1000 * den) ≤ py ∧ py ≤ 1000 * den) :
    (-20000000000 ≤ ay * den ∧ ay * den ≤ 20000000000) ∧ (-20000000000 ≤ ax * den ∧ ax * den ≤ 20000000000) ∧
    (-(2000 * (2000 * den)) ≤ (bx - ax) * (py - ay * den) ∧ (bx - ax) * (py - ay * den) ≤ 2000 * (2000 * den)) ∧
    (-(2000 * (2000 * den)) ≤ (ky - ay) * (px - ax * den) ∧ (ky - ay) * (px - ax * den) ≤ 2000 * (2000 * den)) ∧
    (-(8000000 * den) ≤ sideE ax ay bx ky px py den ∧ sideE ax ay bx ky px py den ≤ 8000000 * den) := by
  have a1 := mul_abs_le (A := 1000) (B := den) h2.1 h2.2 (b := den) (by omega) (by omega)
  have a2 := mul_abs_le (A := 1000) (B := den) h1.1 h1.2 (b := den) (by omega) (by omega)
  have a3 := mul_abs_le (a := bx - ax) (A := 2000) (B := 2000 * den) (by omega) (by omega) (b := py - ay * den) (by omega) (by omega)
  have a4 := mul_abs_le (a := ky - ay) (A := 2000) (B := 2000 * den) (by omega) (by omega) (b := px - ax * den) (by omega) (by omega)
  unfold sideE
  refine ⟨by omega, by omega, a3, a4, by omega, by omega⟩
theorem absE_le {n k : Int} (h : -k ≤ n ∧ n ≤ k) : 0 ≤ absE n ∧ absE n ≤ k := by unfold absE; omega
theorem absE_pos {n : Int} (h : n ≠ 0) : 0 < absE n := by unfold absE; omega
theorem beside_bd {sx sy tx ty den px py : Int} (h5 : 0 < den) (h6 : den ≤ 20000000) (h1 : -5000 ≤ sx ∧ sx ≤ 5000) (h2 : -5000 ≤ sy ∧ sy ≤ 5000)
    (h7 : -(1000 * den) ≤ tx ∧ tx ≤ 1000 * den) (h8 : -(1000 * den) ≤ ty ∧ ty ≤ 1000 * den) (h3 : -1000 ≤ px ∧ px ≤ 1000) (h4 : -1000 ≤ py ∧ py ≤ 1000) :
    (-(5000 * den) ≤ sx * den ∧ sx * den ≤ 5000 * den) ∧ (-(5000 * den) ≤ sy * den ∧ sy * den ≤ 5000 * den) ∧
    (-(6000 * den * 6000) ≤ (tx - sx * den) * (py - sy) ∧ (tx - sx * den) * (py - sy) ≤ 6000 * den * 6000) ∧
    (-(6000 * den * 6000) ≤ (ty - sy * den) * (px - sx) ∧ (ty - sy * den) * (px - sx) ≤ 6000 * den * 6000) ∧
    (-(72000000 * den) ≤ besideE sx sy tx ty den px py ∧ besideE sx sy tx ty den px py ≤ 72000000 * den) := by
  have a1 := mul_abs_le (A := 5000) (B := den) h1.1 h1.2 (b := den) (by omega) (by omega)
  have a2 := mul_abs_le (A := 5000) (B := den) h2.1 h2.2 (b := den) (by omega) (by omega)
  have a3 := mul_abs_le (a := tx - sx * den) (A := 6000 * den) (B := 6000) (by omega) (by omega) (b := py - sy) (by omega) (by omega)
  have a4 := mul_abs_le (a := ty - sy * den) (A := 6000 * den) (B := 6000) (by omega) (by omega) (b := px - sx) (by omega) (by omega)
  unfold besideE
  refine ⟨a1, a2, a3, a4, by omega, by omega⟩
theorem sq_bd {n k : Int} (h : -k ≤ n ∧ n ≤ k) : 0 ≤ n * n ∧ n * n ≤ k * k := by
  have a := mul_abs_le h.1 h.2 h.1 h.2
  have b : 0 ≤ n * n := by
    rcases Int.le_total 0 n with h | h
    · exact Int.mul_nonneg h h
    · rw [← Int.neg_mul_neg]; exact Int.mul_nonneg (by omega) (by omega)
  omega
theorem apart_bd {x y z u v w : Int} (h : SpotOk x y z) (h' : SpotOk u v w) :
    (0 ≤ (x - u) * (x - u) ∧ (x - u) * (x - u) ≤ 4000000) ∧ (0 ≤ (y - v) * (y - v) ∧ (y - v) * (y - v) ≤ 4000000) ∧ (0 ≤ (z - w) * (z - w) ∧ (z - w) * (z - w) ≤ 1000000) ∧
    0 ≤ apartE x y z u v w ∧ apartE x y z u v w ≤ 9000000 := by
  obtain ⟨h1, h2, h3⟩ := h
  obtain ⟨g1, g2, g3⟩ := h'
  have a := sq_bd (n := x - u) (k := 2000) (by omega)
  have b := sq_bd (n := y - v) (k := 2000) (by omega)
  have c := sq_bd (n := z - w) (k := 1000) (by omega)
  unfold apartE
  exact ⟨a, b, c, by omega, by omega⟩
theorem len_bd {sq k : Int} (h : 0 ≤ sq) (hk : 0 ≤ k) (h1 : sq ≤ k * k) : 0 ≤ lenLo sq ∧ lenLo sq ≤ lenHi sq ∧ lenHi sq ≤ k + 1 ∧ lenLo sq ≤ k := by
  obtain ⟨a, b, c⟩ := len_spec h
  have d : lenLo sq ≤ k := by
    apply Int.not_lt.1
    intro q
    have := mul_le_of (a := k + 1) (A := lenLo sq) (b := k + 1) (B := lenLo sq) (by omega) (by omega) (by omega) (by omega)
    have e : (k + 1) * (k + 1) = k * k + 2 * k + 1 := by rw [Int.add_mul, Int.mul_add]; omega
    omega
  unfold lenHi
  split <;> omega
theorem ceil_bd {a b : Int} (h : 0 < b) (ha : 0 ≤ a) : 0 ≤ a / b ∧ a / b ≤ a ∧ a / b * b ≤ a ∧ 0 ≤ ceilE a b ∧ ceilE a b ≤ a + 1 := by
  have h1 := Int.ediv_nonneg ha (Int.le_of_lt h)
  have h2 : a / b ≤ a := Int.ediv_le_self b ha
  have h3 := Int.ediv_mul_le a (show b ≠ 0 by omega)
  unfold ceilE
  split <;> omega
theorem side_pos {ax ay bx ky px py den : Int} : oppo (sideE ax ay bx ky px py 1) (sideE ax ay bx ky px py den) = true → sideE ax ay bx ky px py 1 ≠ 0 := by
  unfold oppo
  simp only [Bool.or_eq_true, Bool.and_eq_true, decide_eq_true_eq]
  omega
/-- What cuts has a measure on each side. -/
theorem cut_pos {ax ay bx ky sx sy tx ty den : Int} (h : cutB ax ay bx ky sx sy tx ty den = true) : sideE ax ay bx ky sx sy 1 ≠ 0 ∧ sideE ax ay bx ky tx ty den ≠ 0 := by
  unfold cutB oppo at h
  simp only [Bool.and_eq_true, Bool.or_eq_true, decide_eq_true_eq] at h
  omega
theorem exc_bd {ax ay bx ky h sx sy sz tx ty tz den : Int} (h1 : -1000 ≤ ax ∧ ax ≤ 1000) (h2 : -1000 ≤ ay ∧ ay ≤ 1000) (h3 : -1000 ≤ bx ∧ bx ≤ 1000) (h4 : -1000 ≤ ky ∧ ky ≤ 1000) (hh : 1 ≤ h ∧ h ≤ 1000)
    (hs : SpotOk sx sy sz) (h5 : 0 < den) (h6 : den ≤ 20000000) (h7 : -(1000 * den) ≤ tx ∧ tx ≤ 1000 * den) (h8 : -(1000 * den) ≤ ty ∧ ty ≤ 1000 * den) (h9 : 0 ≤ tz ∧ tz ≤ 1000 * den) :
    (0 ≤ absE (sideE ax ay bx ky sx sy 1) * den ∧ absE (sideE ax ay bx ky sx sy 1) * den ≤ 8000000 * den) ∧
    (0 ≤ excDen ax ay bx ky sx sy tx ty den ∧ excDen ax ay bx ky sx sy tx ty den ≤ 16000000 * den) ∧
    (0 ≤ h * excDen ax ay bx ky sx sy tx ty den ∧ h * excDen ax ay bx ky sx sy tx ty den ≤ 1000 * (16000000 * den)) ∧
    (0 ≤ absE (sideE ax ay bx ky tx ty den) * sz ∧ absE (sideE ax ay bx ky tx ty den) * sz ≤ 8000000 * den * 1000) ∧
    (0 ≤ absE (sideE ax ay bx ky sx sy 1) * tz ∧ absE (sideE ax ay bx ky sx sy 1) * tz ≤ 8000000 * (1000 * den)) ∧
    (cutB ax ay bx ky sx sy tx ty den = true → 0 < excDen ax ay bx ky sx sy tx ty den) := by
  have s1 := absE_le (side_bd h1 h2 h3 h4 (px := sx) (py := sy) (den := 1) (by omega) (by omega) (by have := hs.1; omega) (by have := hs.2.1; omega)).2.2.2.2
  have s2 := absE_le (side_bd h1 h2 h3 h4 h5 h6 h7 h8).2.2.2.2
  have a1 := mul_le_of s1.1 s1.2 (b := den) (B := den) (by omega) (by omega)
  have a2 : 0 ≤ excDen ax ay bx ky sx sy tx ty den ∧ excDen ax ay bx ky sx sy tx ty den ≤ 16000000 * den := by unfold excDen; omega
  have a3 := mul_le_of (a := h) (A := 1000) (by omega) (by omega) a2.1 a2.2
  have a4 := mul_le_of s2.1 s2.2 (b := sz) (B := 1000) hs.2.2.1 hs.2.2.2
  have a5 := mul_le_of s1.1 s1.2 h9.1 h9.2
  refine ⟨by omega, a2, a3, a4, by omega, fun hc => ?_⟩
  have p := absE_pos (cut_pos hc).2
  unfold excDen
  omega
/-- No depth is great. -/
theorem depth_bd {ax ay bx ky h sx sy sz rx ry rz : Int} (h1 : -1000 ≤ ax ∧ ax ≤ 1000) (h2 : -1000 ≤ ay ∧ ay ≤ 1000) (hs : SpotOk sx sy sz) (hr : SpotOk rx ry rz) : depthE ax ay bx ky h sx sy sz rx ry rz ≤ 10000 := by
  have hz : SpotOk ax ay (min sz rz) := ⟨h1, h2, by have := hs.2.2; have := hr.2.2; omega, by have := hs.2.2; have := hr.2.2; omega⟩
  have b1 := (apart_bd hs hz).2.2.2
  have b2 := (apart_bd hz hr).2.2.2
  have b3 := (apart_bd hs hr).2.2.2
  have c1 := len_bd b1.1 (k := 3000) (by omega) (by omega)
  have c2 := len_bd b2.1 (k := 3000) (by omega) (by omega)
  have c3 := len_bd b3.1 (k := 3000) (by omega) (by omega)
  have d : detLo sx sy sz ax ay (min sz rz) rx ry rz ≤ 6000 := by unfold detLo; omega
  unfold depthE
  split <;> omega
end Go.Fly
end
