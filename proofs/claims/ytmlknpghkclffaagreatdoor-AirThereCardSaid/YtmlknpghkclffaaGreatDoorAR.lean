/- Part of a proof: an evaluator of the model's code by abstract values, and plain laws for it. No conditions. -/
import Derived.Test.YtmlknpghkclffaaGreatDoorAQ
import Derived.Test.YtmlknpghkclffaaGreatDoorAP
import Derived.KernelRfl
set_option linter.unusedSimpArgs false
set_option linter.unusedVariables false
/- The ground: what it reflects. -/
namespace Go.Fly
open Go
def absF (a : Nat) : Nat := (bitV .andNot .u64 (a : Int) 9223372036854775808).toNat
def nanF (a : Nat) : Bool := FloatKind.f64.format.order a a != some .eq
def infF (a : Nat) : Bool := FloatKind.f64.format.order (absF a) 9218868437227405311 == some .gt
def truncF (a : Nat) : Nat := FloatKind.f64.encode ((FloatKind.f64.decode a).integral .zero)
def NoNan (a : Nat) : Prop := ∀ s t, FloatKind.f64.decode a ≠ .nan s t
def wholeE (x lo hi : Nat) : Int := err ((FloatKind.f64.format.order x lo == some .lt || FloatKind.f64.format.order x hi == some .gt) || FloatKind.f64.format.order x (truncF x) != some .eq) 3
def wildF (a : Nat) : Bool := nanF a || infF a
def impE (a b : Nat) : Int := firstL [err (wildF a || wildF b) 1, wholeE a 0 4652007308841189376, wholeE b 13875379345695965184 4652007308841189376]
/-- A valid impedance, in floats whose integers are given. -/
structure ImpOk (a b : Nat) (re im : Int) : Prop where
  na : NoNan a
  nb : NoNan b
  chk : impE a b = 0
  ra : (FloatKind.f64.decode a).toInt .zero = some re
  ib : (FloatKind.f64.decode b).toInt .zero = some im
  r0 : 0 ≤ re
  r1 : re ≤ 1000
  i0 : -1000 ≤ im
  i1 : im ≤ 1000
  sub : ∃ s t u, cpxSub a b 4607182418800017408 0 = some (s, t) ∧ FloatKind.f64.format.add a 4607182418800017408 = some u ∧ ∃ p q, cpxMul s t u (Op.negFloat .f64 b) = some (p, q) ∧
    (FloatKind.f64.decode p).toInt .zero = some (re * re - 1 + im * im) ∧ (FloatKind.f64.decode q).toInt .zero = some (2 * im)
def reI (a : Nat) : Int := ((FloatKind.f64.decode a).toInt .zero).getD 0
def facTop (re im : Int) : Int := re * re - 1 + im * im
def facDen (re im : Int) : Int := (re + 1) * (re + 1) + im * im
def facBy (re im : Int) : Nat := Nat.gcd (Nat.gcd (max (facTop re im) (-facTop re im)).toNat (max (2 * im) (-(2 * im))).toNat) (facDen re im).toNat
def shNum (re im : Int) : Int := (re - 1) * (re - 1) + im * im
def shBy (re im : Int) : Nat := Nat.gcd (shNum re im).toNat (facDen re im).toNat
def isNanC : Contract := fun _ args =>
  match args with
  | [.flt .f64 a] => ⟨True, .bool (nanF a), none⟩
  | _ => ⟨False, .top, none⟩
def fabsC : Contract := fun _ args =>
  match args with
  | [.flt .f64 a] => ⟨True, .flt .f64 (absF a), none⟩
  | _ => ⟨False, .top, none⟩
def isInfC : Contract := fun _ args =>
  match args with
  | [.flt .f64 a, .int .i64 z] => ⟨z = 0, .bool (infF a), none⟩
  | _ => ⟨False, .top, none⟩
def truncC : Contract := fun _ args =>
  match args with
  | [.flt .f64 a] => ⟨NoNan a, .flt .f64 (truncF a), none⟩
  | _ => ⟨False, .top, none⟩
def wildC : Contract := fun _ args =>
  match args with
  | [.flt .f64 a] => ⟨True, .bool (wildF a), none⟩
  | _ => ⟨False, .top, none⟩
def wholC : Contract := fun _ args =>
  match args with
  | [.flt .f64 a, .flt .f64 lo, .flt .f64 hi] => ⟨NoNan a, .int .i64 (wholeE a lo hi), none⟩
  | _ => ⟨False, .top, none⟩
def impC : Contract := fun _ args =>
  match args with
  | [.cplx .f64 a b] => ⟨NoNan a ∧ NoNan b, .int .i64 (impE a b), none⟩
  | _ => ⟨False, .top, none⟩
def shareC : Contract := fun _ args =>
  match args with
  | [.cplx .f64 a b] => ⟨∃ re im, ImpOk a b re im, .agg [.int .i64 ((shNum (reI a) (reI b)).tdiv (shBy (reI a) (reI b))), .int .i64 ((facDen (reI a) (reI b)).tdiv (shBy (reI a) (reI b)))], none⟩
  | _ => ⟨False, .top, none⟩
def share3C : Contract := fun _ args =>
  match args with
  | [.cplx .f64 a b] => ⟨∃ re im, ImpOk a b re im, .tup [.agg [.int .i64 ((shNum (reI a) (reI b)).tdiv (shBy (reI a) (reI b))), .int .i64 ((facDen (reI a) (reI b)).tdiv (shBy (reI a) (reI b)))], .int .i64 0], none⟩
  | _ => ⟨False, .top, none⟩
def fac3C : Contract := fun _ args =>
  match args with
  | [.cplx .f64 a b] => ⟨∃ re im, ImpOk a b re im, .tup [.agg [.int .i64 ((facTop (reI a) (reI b)).tdiv (facBy (reI a) (reI b))), .int .i64 ((2 * reI b).tdiv (facBy (reI a) (reI b)))], .int .i64 ((facDen (reI a) (reI b)).tdiv (facBy (reI a) (reI b))), .int .i64 0], none⟩
  | _ => ⟨False, .top, none⟩
attribute [go_sem] isNanC fabsC isInfC truncC wildC wholC impC shareC share3C fac3C
theorem den_pos {re im : Int} (h : 0 ≤ re) : 1 ≤ facDen re im := by
  unfold facDen
  have h1 := Int.mul_le_mul (show (1 : Int) ≤ re + 1 by omega) (show (1 : Int) ≤ re + 1 by omega) (by omega) (by omega)
  have h2 : 0 ≤ im * im := sq_nn im
  omega
theorem facBy_pos {re im : Int} (h : 0 ≤ re) : 0 < facBy re im := Nat.gcd_pos_of_pos_right _ (by have := den_pos (im := im) h; omega)
theorem shBy_pos {re im : Int} (h : 0 ≤ re) : 0 < shBy re im := Nat.gcd_pos_of_pos_right _ (by have := den_pos (im := im) h; omega)
theorem imp_bd {re im : Int} (h0 : 0 ≤ re) (h1 : re ≤ 1000) (h2 : -1000 ≤ im) (h3 : im ≤ 1000) :
    (0 ≤ re * re ∧ re * re ≤ 1000000) ∧ (0 ≤ im * im ∧ im * im ≤ 1000000) ∧ (0 ≤ (re + 1) * (re + 1) ∧ (re + 1) * (re + 1) ≤ 1002001) ∧ (0 ≤ (re - 1) * (re - 1) ∧ (re - 1) * (re - 1) ≤ 1000000) :=
  ⟨sqBd (m := 1000) (by omega) h1, sqBd (m := 1000) (by omega) h3, sqBd (m := 1001) (by omega) (by omega), sqBd (m := 1000) (by omega) (by omega)⟩
theorem tdiv_in {x m : Int} (n : Nat) (h1 : -m ≤ x) (h2 : x ≤ m) : -m ≤ x.tdiv n ∧ x.tdiv n ≤ m := by
  have h3 : (x.tdiv n).natAbs ≤ x.natAbs := by rw [Int.natAbs_tdiv]; exact Nat.div_le_self _ _
  generalize x.tdiv n = y at h3
  omega
def divDn2C : Contract := fun _ args =>
  match args with
  | [.int .i64 a, .int .i64 b] => ⟨0 ≤ a ∧ a ≤ 4000000000000000000 ∧ 0 < b ∧ b ≤ 1000000000000, .int .i64 (a / b), none⟩
  | _ => ⟨False, .top, none⟩
def divUp2C : Contract := fun _ args =>
  match args with
  | [.int .i64 a, .int .i64 b] => ⟨0 ≤ a ∧ a ≤ 4000000000000000000 ∧ 0 < b ∧ b ≤ 1000000000000, .int .i64 ((a + b - 1) / b), none⟩
  | _ => ⟨False, .top, none⟩
def agLo (e pl num den : Int) : Int := e * pl * num / (1000 * den)
def agHi (e ph num den : Int) : Int := (e * ph * num + 1000 * den - 1) / (1000 * den)
def agG (en p : Nat → List V) (num den : Int) (i : Nat) : List V := [.int .i64 (agLo (intAt en i) (cell p i 0) num den), .int .i64 (agHi (intAt en i) (cell p i 1) num den)]
def arrGC : Contract := fun rl args =>
  match args with
  | [.sl n sz p, .sl n' sz' en, .agg [.int .i64 num, .int .i64 den]] => ⟨sz = 2 ∧ IsIv n p ∧ sz' = 1 ∧ n' = n ∧ IsInts n en ∧ n ≤ 1000000 ∧ (0 ≤ num ∧ num ≤ 2000000) ∧ (1 ≤ den ∧ den ≤ 4000000) ∧ (∀ i, i < n → (0 ≤ cell p i 0 ∧ cell p i 0 ≤ 1000) ∧ (0 ≤ cell p i 1 ∧ cell p i 1 ≤ 1000) ∧ (0 ≤ intAt en i ∧ intAt en i ≤ 1000000000)),
      .msl rl 0 n, some (.arr n 2 (agG en p num den))⟩
  | _ => ⟨False, .top, none⟩
def tot3E (n : Nat) (get : Nat → List V) (a b c d e f : Int) (n' : Nat) (en : Nat → List V) : Int :=
  if checkE n get a b c d e f ≠ 0 then checkE n get a b c d e f else energiesE n' en (inN get 0 4) 1000000000
/-- The transmittances of the path by the ground. -/
def eLo (n : Nat) (get : Nat → List V) (a b c d e f : Int) (k : Nat) : Int := qLo n get (ech a b c d e f) 0 c 0 f 0 k
def eHi (n : Nat) (get : Nat → List V) (a b c d e f : Int) (k : Nat) : Int := qHi n get (ech a b c d e f) 0 c 0 f 0 k
def totG (n : Nat) (get : Nat → List V) (a b c d e f : Int) (num den : Int) (en : Nat → List V) (i : Nat) : List V :=
  [.int .i64 (agLo (intAt en i) (dLo n get a b c d e f i) 1 1 + agLo (intAt en i) (eLo n get a b c d e f i) num den), .int .i64 (agHi (intAt en i) (dHi n get a b c d e f i) 1 1 + agHi (intAt en i) (eHi n get a b c d e f i) num den)]
def tot3C : Contract := fun _ args =>
  match args with
  | [.sl n sz get, .agg [.int .i64 a, .int .i64 b, .int .i64 c, .int .i64 d, .int .i64 e, .int .i64 f], .cplx .f64 x y, .sl n' sz' en] => ⟨sz = 5 ∧ IsAir n get ∧ sz' = 1 ∧ IsInts n' en ∧ n' ≤ 1000000 ∧ ∃ re im, ImpOk x y re im,
      orE (tot3E n get a b c d e f n' en) .nils (.sl n' 2 (totG n get a b c d e f ((shNum (reI x) (reI y)).tdiv (shBy (reI x) (reI y))) ((facDen (reI x) (reI y)).tdiv (shBy (reI x) (reI y))) en)), none⟩
  | _ => ⟨False, .top, none⟩
attribute [go_sem] tot3C divDn2C divUp2C arrGC
theorem ag_bd {e p num : Int} (h1 : 0 ≤ num ∧ num ≤ 2000000) (h2 : 0 ≤ p ∧ p ≤ 1000) (h3 : 0 ≤ e ∧ e ≤ 1000000000) : (0 ≤ e * p ∧ e * p ≤ 1000000000000) ∧ 0 ≤ e * p * num ∧ e * p * num ≤ 2000000000000000000 := by
  have a := Int.mul_nonneg h3.1 h2.1
  have b := Int.mul_le_mul h3.2 h2.2 h2.1 (by omega)
  have c := Int.mul_nonneg a h1.1
  have d := Int.mul_le_mul (show e * p ≤ 1000000000000 by omega) h1.2 h1.1 (by omega)
  omega
theorem agL_bd {x d : Int} (hd : 1 ≤ d) (h : 0 ≤ x ∧ x ≤ 2000000000000000000) : 0 ≤ x / (1000 * d) ∧ x / (1000 * d) ≤ 2000000000000000000 := by
  have h1 := Int.ediv_nonneg h.1 (show 0 ≤ 1000 * d by omega)
  have h2 := Int.ediv_le_self (1000 * d) h.1
  omega
theorem agH_bd {x d : Int} (hd : 1 ≤ d) (h : 0 ≤ x ∧ x ≤ 2000000000000000000) : 0 ≤ (x + 1000 * d - 1) / (1000 * d) ∧ (x + 1000 * d - 1) / (1000 * d) ≤ 2000000000000000001 := by
  have h1 := Int.ediv_nonneg (show 0 ≤ x + 1000 * d - 1 by omega) (show 0 ≤ 1000 * d by omega)
  refine ⟨h1, ?_⟩
  have h3 : x + 1000 * d - 1 < (2000000000000000001 + 1) * (1000 * d) := by omega
  have := Int.ediv_lt_of_lt_mul (show 0 < 1000 * d by omega) h3
  omega
theorem gcd_in {a b m : Nat} (h1 : a ≤ m) (h2 : b ≤ m) : Nat.gcd a b ≤ m := by
  rcases Nat.eq_zero_or_pos a with h | h
  · rw [h, Nat.gcd_zero_left]; exact h2
  · exact Nat.le_trans (Nat.gcd_le_left b h) h1
@[go_sem] theorem frz_cplx {n : Nat} {hp : Heap} {k : FloatKind} {i j : Nat} : frz (n + 1) hp (.cplx k i j) = .cplx k i j := frz_pu (.cplx _ _ _)
@[go_sem] theorem pu_cplx {k : FloatKind} {i j : Nat} : Pu (.cplx k i j) = True := eq_true (.cplx _ _ _)
theorem tdiv_pos {x : Int} {n : Nat} (hn : 0 < n) (h : n ≤ x.toNat) : 1 ≤ x.tdiv n := by
  rw [Int.tdiv_eq_ediv_of_nonneg (by omega)]
  exact (Int.le_ediv_iff_mul_le (by omega)).2 (by omega)
theorem share_bd {re im : Int} (h0 : 0 ≤ re) (h1 : re ≤ 1000) (h2 : -1000 ≤ im) (h3 : im ≤ 1000) :
    (0 ≤ (shNum re im).tdiv (shBy re im) ∧ (shNum re im).tdiv (shBy re im) ≤ 2000000) ∧ 1 ≤ (facDen re im).tdiv (shBy re im) ∧ (facDen re im).tdiv (shBy re im) ≤ 4000000 := by
  have hb := imp_bd h0 h1 h2 h3
  have hp := shBy_pos (im := im) h0
  have hd := den_pos (im := im) h0
  have hle : shBy re im ≤ (facDen re im).toNat := Nat.gcd_le_right _ (by omega)
  have s0 : 0 ≤ shNum re im ∧ shNum re im ≤ 2000000 := by unfold shNum; omega
  have d0 : facDen re im ≤ 4000000 := by unfold facDen; omega
  have q1 := tdiv_in (x := shNum re im) (m := 2000000) (shBy re im) (by omega) (by omega)
  have q2 := tdiv_in (x := facDen re im) (m := 4000000) (shBy re im) (by omega) (by omega)
  have q3 := Int.tdiv_nonneg s0.1 (show (0 : Int) ≤ shBy re im by omega)
  have q4 := tdiv_pos hp hle
  omega
end Go.Fly
