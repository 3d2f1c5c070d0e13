/- Part of a proof: an evaluator of the model's code by abstract values, and plain laws for it. No conditions. -/
import Derived.Test.YtlfciglmhomdpaaAK
import Derived.Laws.Externs
set_option linter.unusedSimpArgs false
set_option linter.unusedVariables false
/- Contracts of the air: paths, steps, transmittances. -/
namespace Go.Fly
open Go

/-- A valid air. -/
structure AirOk (n : Nat) (get : Nat → List V) : Prop where
  cnt : 0 < n ∧ n ≤ 8
  th : ∀ i, i < n → 1 ≤ cell get i 0 ∧ cell get i 0 ≤ 2000
  bands : 0 < inN get 0 4 ∧ inN get 0 4 ≤ 8
  same : ∀ i, i < n → inN get i 4 = inN get 0 4
  pass : ∀ i, i < n → ∀ b, b < inN get 0 4 → 0 ≤ cell (inG get i 4) b 0 ∧ cell (inG get i 4) b 0 ≤ cell (inG get i 4) b 1 ∧ cell (inG get i 4) b 1 ≤ 1000

theorem ivE_zero {lo hi most : Int} : ivE lo hi most = 0 ↔ 0 ≤ lo ∧ lo ≤ hi ∧ hi ≤ most := by
  unfold ivE
  rw [firstL_zero]
  simp only [List.mem_cons, List.not_mem_nil, or_false, forall_eq_or_imp, forall_eq, rng_zero, err_zero (show (11 : Int) ≠ 0 by decide), decide_eq_false_iff_not]
  omega
theorem layerE_zero {th sp wx wy : Int} {m : Nat} {g : Nat → List V} {bands : Int} (h : layerE th sp wx wy m g bands = 0) :
    (1 ≤ th ∧ th ≤ 2000) ∧ 0 < m ∧ m ≤ 8 ∧ (m : Int) = bands ∧ ∀ b, b < m → 0 ≤ cell g b 0 ∧ cell g b 0 ≤ cell g b 1 ∧ cell g b 1 ≤ 1000 := by
  unfold layerE at h
  by_cases h1 : layerE1 th sp wx wy = 0
  · simp only [h1, ne_eq, not_true_eq_false, if_false] at h
    by_cases h2 : layerE2 m bands = 0
    · simp only [h2, ne_eq, not_true_eq_false, if_false] at h
      obtain ⟨a, b, c⟩ := layerE2_zero.1 h2
      refine ⟨?_, a, b, c, fun k hk => ?_⟩
      · unfold layerE1 at h1
        rw [firstL_zero] at h1
        have := h1 (rng th 1 2000) (by simp)
        exact rng_zero.1 this
      · unfold ivsE at h
        exact ivE_zero.1 (firstI_zero.1 h k (Nat.zero_le _) (by omega))
    · simp only [ne_eq, h2, not_false_eq_true, if_true] at h
  · simp only [ne_eq, h1, not_false_eq_true, if_true] at h
theorem airE_ok {n : Nat} {get : Nat → List V} (h : airE n get = 0) : AirOk n get := by
  unfold airE at h
  by_cases h0 : airE0 n = 0
  · simp only [h0, ne_eq, not_true_eq_false, if_false] at h
    have hn := airE0_zero.1 h0
    have hl := fun i (hi : i < n) => layerE_zero (firstI_zero.1 h i (Nat.zero_le _) (by omega))
    obtain ⟨a, b, c, d, e⟩ := hl 0 hn.1
    refine ⟨hn, fun i hi => (hl i hi).1, ⟨b, c⟩, fun i hi => by have := (hl i hi).2.2.2.1; omega, fun i hi b hb => ?_⟩
    have := (hl i hi).2.2.2.1
    exact (hl i hi).2.2.2.2 b (by omega)
  · simp only [ne_eq, h0, not_false_eq_true, if_true] at h

theorem bot_bd {n : Nat} {get : Nat → List V} (h : AirOk n get) : ∀ {i : Nat}, i ≤ n → (i : Int) ≤ botE get i ∧ botE get i ≤ 2000 * i
  | 0, _ => by simp [botE]
  | i + 1, hi => by
    have a := bot_bd h (i := i) (by omega)
    have b := h.th i (by omega)
    simp only [botE]
    omega
theorem top_bd {n : Nat} {get : Nat → List V} (h : AirOk n get) {i : Nat} (hi : i < n) : botE get i < topE n get i ∧ topE n get i ≤ 1099511627776 := by
  have a := bot_bd h (i := i) (by omega)
  have b := h.th i hi
  have c := h.cnt
  unfold topE
  split <;> omega
theorem top_next {n : Nat} {get : Nat → List V} {i : Nat} (hi : i + 1 < n) : topE n get i = botE get (i + 1) := by
  unfold topE
  rw [if_neg (by omega)]
  rfl
theorem atE_ok {n : Nat} {get : Nat → List V} (hok : AirOk n get) {h : Int} (hh : h ≤ 20000) : ∃ j : Nat, j < n ∧ atE n get h = j := by
  rcases idxF_spec (p := fun i => decide (h < topE n get i)) (k := n) (i := 0) with e | ⟨j, _, q2, q3, _, _⟩
  · exfalso
    have hc := hok.cnt
    have hno : ∀ {k i : Nat} {p : Nat → Bool}, idxF p i k = -1 → ∀ j, i ≤ j → j < i + k → p j = false := by
      intro k
      induction k with
      | zero => intro i p _ j h1 h2; omega
      | succ k ih =>
        intro i p hp j h1 h2
        unfold idxF at hp
        split at hp
        · omega
        · rename_i hb
          by_cases e : j = i
          · subst e; simpa using hb
          · exact ih hp j (by omega) (by omega)
    have := hno e (n - 1) (by omega) (by omega)
    simp only [decide_eq_false_iff_not] at this
    have ht : topE n get (n - 1) = 1099511627776 := by unfold topE; rw [if_pos (by omega)]
    omega
  · exact ⟨j, by omega, q3⟩

/-- A valid path. -/
def PathOk (a b c d e f : Int) : Prop := ((-10000 ≤ a ∧ a ≤ 10000) ∧ (-10000 ≤ b ∧ b ≤ 10000) ∧ 0 ≤ c ∧ c ≤ 10000) ∧ ((-10000 ≤ d ∧ d ≤ 10000) ∧ (-10000 ≤ e ∧ e ≤ 10000) ∧ 0 ≤ f ∧ f ≤ 10000) ∧ ¬ (a = d ∧ b = e ∧ c = f)
theorem pathE_zero {a b c d e f : Int} : pathE a b c d e f = 0 ↔ PathOk a b c d e f := by
  unfold pathE pointE PathOk
  rw [firstL_zero]
  simp only [List.mem_cons, List.not_mem_nil, or_false, forall_eq_or_imp, forall_eq, firstL_zero, rng_zero, err_zero (show (6 : Int) ≠ 0 by decide), Bool.and_eq_false_iff, decide_eq_false_iff_not]
  constructor
  · rintro ⟨⟨h1, h2, h3⟩, ⟨h4, h5, h6⟩, h7⟩
    refine ⟨⟨h1, h2, h3⟩, ⟨h4, h5, h6⟩, fun q => ?_⟩
    rcases h7 with h | h | h
    · exact h q.1
    · exact h q.2.1
    · exact h q.2.2
  · rintro ⟨⟨h1, h2, h3⟩, ⟨h4, h5, h6⟩, h7⟩
    refine ⟨⟨h1, h2, h3⟩, ⟨h4, h5, h6⟩, ?_⟩
    by_cases q1 : a = d
    · by_cases q2 : b = e
      · by_cases q3 : c = f
        · exact absurd ⟨q1, q2, q3⟩ h7
        · exact .inr (.inr q3)
      · exact .inr (.inl q2)
    · exact .inl q1
def sqE (a b c d e f : Int) : Int := (d - a) * (d - a) + (e - b) * (e - b) + (f - c) * (f - c)
theorem sq_nn (x : Int) : 0 ≤ x * x := by
  rcases Int.le_total 0 x with h | h
  · exact Int.mul_nonneg h h
  · exact Int.mul_nonneg_of_nonpos_of_nonpos h h
theorem sqE_bd {a b c d e f : Int} (h : PathOk a b c d e f) : 0 ≤ sqE a b c d e f ∧ sqE a b c d e f ≤ 900000000 := by
  obtain ⟨⟨h1, h2, h3⟩, ⟨h4, h5, h6⟩, -⟩ := h
  have e1 := mul_abs_le (a := d - a) (b := d - a) (A := 20000) (B := 20000) (by omega) (by omega) (by omega) (by omega)
  have e2 := mul_abs_le (a := e - b) (b := e - b) (A := 20000) (B := 20000) (by omega) (by omega) (by omega) (by omega)
  have e3 := mul_abs_le (a := f - c) (b := f - c) (A := 10000) (B := 10000) (by omega) (by omega) (by omega) (by omega)
  have s1 := sq_nn (d - a)
  have s2 := sq_nn (e - b)
  have s3 := sq_nn (f - c)
  unfold sqE
  omega

def sqrtC : Contract := fun _ args =>
  match args with
  | [.flt .f64 x] => ⟨(FloatKind.f64.format.sqrt x).isSome = true, .flt .f64 ((FloatKind.f64.format.sqrt x).getD 0), none⟩
  | _ => ⟨False, .top, none⟩
def divDnC : Contract := fun _ args =>
  match args with
  | [.int .i64 a, .int .i64 b] => ⟨0 ≤ a ∧ a ≤ 1000000000000000000 ∧ 0 < b ∧ b ≤ 1000000000000, .int .i64 (a / b), none⟩
  | _ => ⟨False, .top, none⟩
def divUpC : Contract := fun _ args =>
  match args with
  | [.int .i64 a, .int .i64 b] => ⟨0 ≤ a ∧ a ≤ 1000000000000000000 ∧ 0 < b ∧ b ≤ 1000000000000, .int .i64 ((a + b - 1) / b), none⟩
  | _ => ⟨False, .top, none⟩
def roundsC (g1 g2 : FuncId) : Contract := fun _ args =>
  match args with
  | [] => ⟨True, .tup [.agg [.fn (.func g1) [] []], .agg [.fn (.func g2) [] []]], none⟩
  | _ => ⟨False, .top, none⟩
def directC : Contract := fun _ args =>
  match args with
  | [.agg [.int .i64 a, .int .i64 b, .int .i64 c, .int .i64 d, .int .i64 e, .int .i64 f]] => ⟨PathOk a b c d e f, .agg [.int .i64 (d - a), .int .i64 (e - b)], none⟩
  | _ => ⟨False, .top, none⟩
def straightC : Contract := fun _ args =>
  match args with
  | [.agg [.int .i64 a, .int .i64 b, .int .i64 c, .int .i64 d, .int .i64 e, .int .i64 f]] => ⟨PathOk a b c d e f, .agg [.int .i64 (sqE a b c d e f), .int .i64 (min c f), .int .i64 (max c f), .int .i64 0, .int .i64 0, .int .i64 c], none⟩
  | _ => ⟨False, .top, none⟩
def overC : Contract := fun _ args =>
  match args with
  | [.agg [.int .i64 th, .int .i64 sp, .int .i64 wx, .int .i64 wy, .sl m sz g, .int .i64 bot, .int .i64 top], .int .i64 lo, .int .i64 hi] =>
    ⟨(-1000000 ≤ lo ∧ lo ≤ 1000000) ∧ (-1000000 ≤ hi ∧ hi ≤ 1000000) ∧ (0 ≤ bot ∧ bot ≤ 1000000) ∧ (0 ≤ top ∧ top ≤ 1099511627776) ∧ Pu (.sl m sz g), .int .i64 (overE bot top lo hi), none⟩
  | _ => ⟨False, .top, none⟩
def rootC : Contract := fun _ args =>
  match args with
  | [.int .i64 s, .int .i64 t] => ⟨0 ≤ s ∧ s ≤ 500000000000000000 ∧ 0 < t ∧ t ≤ 4000000000000, .int .i64 (rootE s t), none⟩
  | _ => ⟨False, .top, none⟩
def rootsC : Contract := fun _ args =>
  match args with
  | [.int .i64 s, .int .i64 t] => ⟨0 ≤ s ∧ s ≤ 500000000000000000 ∧ 0 < t ∧ t ≤ 4000000000000, .agg [.int .i64 (rootE s t), .int .i64 (rootUp s t)], none⟩
  | _ => ⟨False, .top, none⟩
def placedC (g1 : FuncId) : Contract := fun _ args =>
  match args with
  | [.sl n sz get] => ⟨sz = 5 ∧ IsAir n get, .fn (.func g1) [] [.cptr [.sl n 5 get]], none⟩
  | _ => ⟨False, .top, none⟩
def atC : Contract := fun _ args =>
  match args with
  | [.sl n sz get, .int .i64 h] => ⟨sz = 5 ∧ IsAir n get ∧ AirOk n get ∧ 0 ≤ h ∧ h ≤ 10000,
      .tup [.int .i64 (atE n get h), .agg (get (atE n get h).toNat ++ [.int .i64 (botE get (atE n get h).toNat), .int .i64 (topE n get (atE n get h).toNat)])], none⟩
  | _ => ⟨False, .top, none⟩
def stepsC : Contract := fun _ args =>
  match args with
  | [.agg [.int .i64 sq, .int .i64 z0, .int .i64 z1, .int .i64 y0, .int .i64 y1, .int .i64 flat], .sl n sz get] =>
    ⟨sz = 5 ∧ IsAir n get ∧ AirOk n get ∧ (0 ≤ sq ∧ sq ≤ 900000000) ∧ 0 ≤ z0 ∧ z0 ≤ z1 ∧ z1 ≤ 10000 ∧ y0 = 0 ∧ y1 = 0 ∧ 0 ≤ flat ∧ flat ≤ 10000,
      .sl n 2 (fun i => [.int .i64 (stepLo n get sq z0 z1 flat i), .int .i64 (stepHi n get sq z0 z1 flat i)]), none⟩
  | _ => ⟨False, .top, none⟩
def passedC : Contract := fun _ args =>
  match args with
  | [.sl n sz get, .sl n' sz' st] => ⟨sz = 5 ∧ IsAir n get ∧ AirOk n get ∧ sz' = 2 ∧ n' = n ∧ IsIv n st ∧ (∀ i, i < n → 0 ≤ cell st i 0 ∧ cell st i 0 ≤ 1000000 ∧ 0 ≤ cell st i 1 ∧ cell st i 1 ≤ 1000000),
      .sl (inN get 0 4) 2 (fun b => [.int .i64 (passLo get (fun i => cell st i 1) b n), .int .i64 (passHi get (fun i => cell st i 0) b n)]), none⟩
  | _ => ⟨False, .top, none⟩
def arrivedC : Contract := fun _ args =>
  match args with
  | [.sl n sz p, .sl n' sz' en, .agg [.int .i64 num, .int .i64 den]] => ⟨sz = 2 ∧ IsIv n p ∧ sz' = 1 ∧ n' = n ∧ IsInts n en ∧ n ≤ 1000000 ∧ num = 1 ∧ den = 1 ∧ (∀ i, i < n → 0 ≤ cell p i 0 ∧ cell p i 0 ≤ 1000 ∧ 0 ≤ cell p i 1 ∧ cell p i 1 ≤ 1000 ∧ 0 ≤ intAt en i ∧ intAt en i ≤ 10000000000000),
      .sl n 2 (fun i => [.int .i64 (arrLo (intAt en i) (cell p i 0)), .int .i64 (arrHi (intAt en i) (cell p i 1))]), none⟩
  | _ => ⟨False, .top, none⟩
/-- The transmittance of a path in a band. -/
def pLo (n : Nat) (get : Nat → List V) (a b c d e f : Int) (k : Nat) : Int := passLo get (fun i => stepHi n get (sqE a b c d e f) (min c f) (max c f) c i) k n
def pHi (n : Nat) (get : Nat → List V) (a b c d e f : Int) (k : Nat) : Int := passHi get (fun i => stepLo n get (sqE a b c d e f) (min c f) (max c f) c i) k n
def arrived2C : Contract := fun _ args =>
  match args with
  | [.sl n sz get, .agg [.int .i64 a, .int .i64 b, .int .i64 c, .int .i64 d, .int .i64 e, .int .i64 f], .sl n' sz' en] =>
    ⟨sz = 5 ∧ IsAir n get ∧ airE n get = 0 ∧ PathOk a b c d e f ∧ sz' = 1 ∧ IsInts n' en ∧ n' = inN get 0 4 ∧ (∀ i, i < n' → 0 ≤ intAt en i ∧ intAt en i ≤ 10000000000000),
      .tup [.sl n' 2 (fun i => [.int .i64 (arrLo (intAt en i) (pLo n get a b c d e f i)), .int .i64 (arrHi (intAt en i) (pHi n get a b c d e f i))]), .int .i64 0], none⟩
  | _ => ⟨False, .top, none⟩
def emittedC : Contract := fun _ args =>
  match args with
  | [.agg [.int .i64 pl, .int .i64 ph], .agg [.int .i64 lo, .int .i64 hi]] => ⟨0 ≤ pl ∧ pl ≤ 1000 ∧ 0 ≤ ph ∧ ph ≤ 1000 ∧ 0 ≤ lo ∧ lo ≤ 10000000000000 ∧ 0 ≤ hi ∧ hi ≤ 10000000000000, .agg [.int .i64 (emLo lo ph), .int .i64 (emHi hi pl)], none⟩
  | _ => ⟨False, .top, none⟩
/-- Where what is heard can have been emitted. -/
def emitted2C : Contract := fun _ args =>
  match args with
  | [.sl n sz get, .agg [.int .i64 a, .int .i64 b, .int .i64 c, .int .i64 d, .int .i64 e, .int .i64 f], .sl n' sz' hd] =>
    ⟨sz = 5 ∧ IsAir n get ∧ airE n get = 0 ∧ PathOk a b c d e f ∧ sz' = 2 ∧ IsIv n' hd ∧ n' = inN get 0 4 ∧ (∀ i, i < n' → 0 ≤ cell hd i 0 ∧ cell hd i 0 ≤ cell hd i 1 ∧ cell hd i 1 ≤ 10000000000000 ∧
        emLo (cell hd i 0) (pHi n get a b c d e f i) ≤ emHi (cell hd i 1) (pLo n get a b c d e f i)),
      .tup [.sl n' 2 (fun i => [.int .i64 (emLo (cell hd i 0) (pHi n get a b c d e f i)), .int .i64 (emHi (cell hd i 1) (pLo n get a b c d e f i))]), .int .i64 0], none⟩
  | _ => ⟨False, .top, none⟩
theorem frz_flt {n : Nat} {hp : Heap} {k : FloatKind} {i : Nat} : frz (n + 1) hp (.flt k i) = .flt k i := frz_pu (.flt _ _)
attribute [go_sem] frz_flt fltV Bool.false_eq_true sqrtC divDnC divUpC roundsC directC straightC overC rootC rootsC placedC atC stepsC passedC arrivedC arrived2C emittedC emitted2C
end Go.Fly
