/- Part of a proof: an evaluator of the model's code by abstract values, and plain laws for it. No conditions. -/
import Derived.Test.YtmlknpghkclffaaGreatDoorAH
import Derived.Test.YtmlknpghkclffaaGreatDoorAR
import Derived.Test.YtmlknpghkclffaaGreatDoorBB
set_option linter.unusedSimpArgs false
set_option linter.unusedVariables false
section
/- Floats that are integers: sums and products are exact. -/
set_option maxRecDepth 20000
namespace Go.Fly
open Go Ieee
/-- A datum that is an integer. -/
def IsN (x : Nat) (s : Bool) (N : Nat) : Prop := ∃ k : Nat, k ≤ 1074 ∧ double.read x = .number s (N * 2 ^ k) (-(k : Int))
def sgI (s : Bool) (N : Nat) : Int := if s then -(N : Int) else (N : Int)
def IsZ (x : Nat) (n : Int) : Prop := ∃ s N, IsN x s N ∧ n = sgI s N
theorem signed_sg (s : Bool) (N k : Nat) : signed s N k = sgI s N * ((2 ^ k : Nat) : Int) := by
  unfold signed sgI
  rw [Nat.shiftLeft_eq]
  cases s <;> simp [Int.neg_mul]
theorem sg_shift (s : Bool) (N k l : Nat) : signed s (N * 2 ^ k) l = sgI s N * ((2 ^ (k + l) : Nat) : Int) := by
  rw [signed_sg, Nat.pow_add]
  unfold sgI
  cases s <;> simp [Int.neg_mul, Int.mul_assoc]
theorem log2_shift {N k : Nat} (h : 0 < N) : (N * 2 ^ k).log2 = N.log2 + k := by
  obtain ⟨b1, b2⟩ := log2_bd h
  have hp : 0 < 2 ^ k := Nat.two_pow_pos k
  have hne : N * 2 ^ k ≠ 0 := Nat.ne_of_gt (Nat.mul_pos h hp)
  refine (Nat.log2_eq_iff hne).2 ⟨?_, ?_⟩
  · rw [Nat.pow_add]; exact Nat.mul_le_mul_right _ b1
  · rw [show N.log2 + k + 1 = (N.log2 + 1) + k by omega, Nat.pow_add]; exact Nat.mul_lt_mul_of_pos_right b2 hp
theorem cut_exact (way : Toward) (s : Bool) {M d : Nat} (h : 0 < M) : Toward.cut way s (M * 2 ^ d) d = M := by
  have hl := log2_shift (k := d) h
  have e : min d ((M * 2 ^ d).log2 + 2) = d := by omega
  have hp : 0 < 2 ^ d := Nat.two_pow_pos d
  simp only [Toward.cut, e, Nat.one_shiftLeft, Nat.mul_mod_left, Nat.mul_div_cancel _ hp]
  cases way <;> simp <;> omega
theorem log2_lt53 {N : Nat} (h : 0 < N) (h2 : N < 9007199254740992) : N.log2 ≤ 52 := by
  have : N.log2 < 53 := (Nat.log2_lt (Nat.ne_of_gt h)).2 h2
  omega
/-- What is written of an integer is read as it. -/
theorem isN_write {s : Bool} {N k : Nat} (hN : N < 9007199254740992) (hk : k ≤ 2200) : IsN (double.nearest s (N * 2 ^ k) (-(k : Int))) s N := by
  have e0 : double.fractionBits = 52 := rfl
  have e1 : double.leastPlace = -1074 := by decide
  have e2 : double.binade = 4503599627370496 := by decide
  have e3 : double.infRung = 2047 * 4503599627370496 := by decide
  have e4 : double.signWeight = 9223372036854775808 := by decide
  have hp : 0 < 2 ^ k := Nat.two_pow_pos k
  rcases Nat.eq_zero_or_pos N with h0 | hpos
  · subst h0
    refine ⟨1074, by decide, ?_⟩
    rw [show (0 : Nat) * 2 ^ k = 0 from Nat.zero_mul _]
    generalize hE : (1074 : Nat) = E
    rw [Nat.zero_mul]
    unfold Format.nearest
    rw [if_pos rfl]
    simp only [Format.word, Format.read, e1, e2, e3, e4]
    subst hE
    cases s
    · rfl
    · rfl
  · have hl := log2_shift (k := k) hpos
    have hlN := log2_lt53 hpos hN
    obtain ⟨b1, b2⟩ := log2_bd hpos
    obtain ⟨r, hr⟩ : ∃ r : Nat, N.log2 + r = 52 := ⟨52 - N.log2, by omega⟩
    have hne : N * 2 ^ k ≠ 0 := Nat.ne_of_gt (Nat.mul_pos hpos hp)
    have hlast : max (-(k : Int) + ((N * 2 ^ k).log2 : Int) - ((52 : Nat) : Int)) double.leastPlace = -(r : Int) := by rw [e1, hl]; omega
    have hkept : Toward.cut .even s ((N * 2 ^ k) <<< (-(k : Int) - -(r : Int)).toNat) (-(r : Int) - -(k : Int)).toNat = N * 2 ^ r := by
      rcases Nat.le_total k r with q | q
      · rw [show (-(k : Int) - -(r : Int)).toNat = r - k by omega, show (-(r : Int) - -(k : Int)).toNat = 0 by omega, cut0, Nat.shiftLeft_eq, Nat.mul_assoc, ← Nat.pow_add, show k + (r - k) = r by omega]
      · rw [show (-(k : Int) - -(r : Int)).toNat = 0 by omega, show (-(r : Int) - -(k : Int)).toNat = k - r by omega, Nat.shiftLeft_zero, show k = r + (k - r) by omega, Nat.pow_add, ← Nat.mul_assoc, show r + (k - r) - r = k - r by omega]
        exact cut_exact _ _ (Nat.mul_pos hpos (Nat.two_pow_pos r))
    refine ⟨r, by omega, ?_⟩
    unfold Format.nearest
    rw [if_neg hne]
    simp only [e0]
    rw [hlast, hkept, e1, e2, e3]
    have k1 : 4503599627370496 ≤ N * 2 ^ r := by
      have : 2 ^ N.log2 * 2 ^ r ≤ N * 2 ^ r := Nat.mul_le_mul_right _ b1
      rw [← Nat.pow_add, hr] at this
      exact this
    have k2 : N * 2 ^ r < 9007199254740992 := by
      have : N * 2 ^ r < 2 ^ (N.log2 + 1) * 2 ^ r := Nat.mul_lt_mul_of_pos_right b2 (Nat.two_pow_pos r)
      rw [← Nat.pow_add, show N.log2 + 1 + r = 53 by omega] at this
      exact this
    generalize N * 2 ^ r = M at k1 k2
    obtain ⟨L, hL⟩ : ∃ L : Nat, (-(r : Int) - -1074).toNat = L := ⟨_, rfl⟩
    have hLr : L + r = 1074 := by omega
    rw [hL, Nat.min_eq_left (by omega)]
    obtain ⟨rung, hrg⟩ : ∃ rung : Nat, L * 4503599627370496 + M = rung := ⟨_, rfl⟩
    rw [hrg]
    simp only [Format.word, Format.read, e1, e2, e3, e4]
    have f2 : rung % 9223372036854775808 = rung := by omega
    have g1 : 4503599627370496 + rung % 4503599627370496 = M := by omega
    have g2 : rung / 4503599627370496 - 1 = L := by omega
    cases s
    · have f1 : rung / 9223372036854775808 = 0 := by omega
      simp only [Bool.false_eq_true, if_false]
      rw [f1, f2, if_neg (by omega), if_pos (by omega), g1, g2]
      congr 1
      omega
    · have f1 : (9223372036854775808 + rung) / 9223372036854775808 % 2 = 1 := by omega
      have f3 : (9223372036854775808 + rung) % 9223372036854775808 = rung := by omega
      simp only [if_true]
      rw [f1, f3, if_neg (by omega), if_pos (by omega), g1, g2]
      congr 1
      omega
theorem sgI_abs (s : Bool) (N : Nat) : (sgI s N).natAbs = N := by unfold sgI; cases s <;> simp
theorem isZ_write {n : Int} {s : Bool} {k : Nat} (hs : n ≠ 0 → s = decide (n < 0)) (hn : n.natAbs < 9007199254740992) (hk : k ≤ 2200) : IsZ (double.nearest s (n.natAbs * 2 ^ k) (-(k : Int))) n := by
  refine ⟨s, n.natAbs, isN_write hn hk, ?_⟩
  unfold sgI
  by_cases h : n = 0
  · subst h; cases s <;> rfl
  · rw [hs h]
    by_cases h2 : n < 0
    · simp [h2]; omega
    · simp [h2]; omega
theorem isZ_mul {x y : Nat} {a b : Int} (hx : IsZ x a) (hy : IsZ y b) (hb : (a * b).natAbs < 9007199254740992) : ∃ z, double.mul x y = some z ∧ IsZ z (a * b) := by
  obtain ⟨s, N, ⟨k, hk, h1⟩, e1⟩ := hx
  obtain ⟨t, M, ⟨l, hl, h2⟩, e2⟩ := hy
  refine ⟨_, by unfold Format.mul; rw [h1, h2]; rfl, ?_⟩
  have hab : (a * b).natAbs = N * M := by rw [Int.natAbs_mul, e1, e2, sgI_abs, sgI_abs]
  show IsZ (double.nearest (s ^^ t) (N * 2 ^ k * (M * 2 ^ l)) (-(k : Int) + -(l : Int))) (a * b)
  have e3 : N * 2 ^ k * (M * 2 ^ l) = N * M * 2 ^ (k + l) := by rw [Nat.pow_add]; exact Nat.mul_mul_mul_comm _ _ _ _
  rw [e3, show -(k : Int) + -(l : Int) = -((k + l : Nat) : Int) by omega]
  refine ⟨_, _, isN_write (by omega) (by omega), ?_⟩
  rw [e1, e2]
  unfold sgI
  cases s <;> cases t <;> simp [Int.neg_mul, Int.mul_neg]
theorem isZ_sum {k l : Nat} {s t : Bool} {N M : Nat} (hk : k ≤ 1074) (hl : l ≤ 1074) (hb : (sgI s N + sgI t M).natAbs < 9007199254740992) :
    ∃ z, ((Datum.number s (N * 2 ^ k) (-(k : Int))).sum (.number t (M * 2 ^ l) (-(l : Int)))).map double.write = some z ∧ IsZ z (sgI s N + sgI t M) := by
  have hbase : min (-(k : Int)) (-(l : Int)) = -((max k l : Nat) : Int) := by omega
  refine ⟨_, rfl, ?_⟩
  show IsZ (double.nearest _ (signed s (N * 2 ^ k) (-(k : Int) - min (-(k : Int)) (-(l : Int))).toNat + signed t (M * 2 ^ l) (-(l : Int) - min (-(k : Int)) (-(l : Int))).toNat).natAbs (min (-(k : Int)) (-(l : Int)))) _
  rw [sg_shift, sg_shift, hbase, show k + (-(k : Int) - -((max k l : Nat) : Int)).toNat = max k l by omega, show l + (-(l : Int) - -((max k l : Nat) : Int)).toNat = max k l by omega, ← Int.add_mul, Int.natAbs_mul, Int.natAbs_natCast]
  have hp : (0 : Int) < ((2 ^ (max k l) : Nat) : Int) := by have := Nat.two_pow_pos (max k l); omega
  refine isZ_write (fun hne => ?_) hb (by omega)
  generalize sgI s N + sgI t M = n at hne
  generalize ((2 ^ (max k l) : Nat) : Int) = c at hp
  rw [if_neg (by intro q; rcases Int.mul_eq_zero.1 q with q | q <;> omega)]
  have : (n * c < 0) = (n < 0) := by
    apply propext
    constructor
    · intro q
      refine Int.not_le.1 fun r => ?_
      have := Int.mul_nonneg r (Int.le_of_lt hp)
      omega
    · intro q
      exact Int.mul_neg_of_neg_of_pos q hp
  simp only [this]
theorem isZ_add {x y : Nat} {a b : Int} (hx : IsZ x a) (hy : IsZ y b) (hb : (a + b).natAbs < 9007199254740992) : ∃ z, double.add x y = some z ∧ IsZ z (a + b) := by
  obtain ⟨s, N, ⟨k, hk, h1⟩, e1⟩ := hx
  obtain ⟨t, M, ⟨l, hl, h2⟩, e2⟩ := hy
  unfold Format.add
  rw [h1, h2, e1, e2]
  exact isZ_sum hk hl (by rw [← e1, ← e2]; exact hb)
theorem isZ_sub {x y : Nat} {a b : Int} (hx : IsZ x a) (hy : IsZ y b) (hb : (a - b).natAbs < 9007199254740992) : ∃ z, double.sub x y = some z ∧ IsZ z (a - b) := by
  obtain ⟨s, N, ⟨k, hk, h1⟩, e1⟩ := hx
  obtain ⟨t, M, ⟨l, hl, h2⟩, e2⟩ := hy
  have e3 : -b = sgI (!t) M := by rw [e2]; unfold sgI; cases t <;> simp
  unfold Format.sub
  rw [h1, h2, Int.sub_eq_add_neg, e3, e1]
  exact isZ_sum hk hl (by rw [← e1, ← e3, ← Int.sub_eq_add_neg]; exact hb)
theorem cut_zero (s : Bool) (M d : Nat) : Toward.cut .zero s (M * 2 ^ d) d = M := by
  rcases Nat.eq_zero_or_pos M with h | h
  · subst h; simp [Toward.cut]
  · exact cut_exact _ _ h
theorem isZ_int {x : Nat} {n : Int} (h : IsZ x n) : (FloatKind.f64.decode x).toInt .zero = some n := by
  obtain ⟨s, N, ⟨k, hk, h1⟩, e1⟩ := h
  have : FloatKind.f64.decode x = .number s (N * 2 ^ k) (-(k : Int)) := h1
  rw [this]
  show some (signed s (Toward.cut .zero s ((N * 2 ^ k) <<< (-(k : Int)).toNat) (- -(k : Int)).toNat) 0) = some n
  rw [show (-(k : Int)).toNat = 0 by omega, show (- -(k : Int)).toNat = k by omega, Nat.shiftLeft_zero, cut_zero, e1, signed_sg]
  simp
theorem isZ_nan {x : Nat} {n : Int} (h : IsZ x n) : NoNan x := by
  obtain ⟨s, N, ⟨k, hk, h1⟩, e1⟩ := h
  intro a b
  have : FloatKind.f64.decode x = .number s (N * 2 ^ k) (-(k : Int)) := h1
  rw [this]
  exact fun q => by cases q
/-- An integer as a float. -/
theorem isZ_of {n : Int} (hn : n.natAbs < 9007199254740992) : IsZ (FloatKind.f64.nearest n) n := by
  have := isZ_write (n := n) (s := decide (n < 0)) (k := 0) (fun _ => rfl) hn (by decide)
  rw [Nat.pow_zero, Nat.mul_one] at this
  exact this
theorem isZ_0 : IsZ 0 0 := by
  have := isZ_of (n := 0) (by decide)
  rw [show FloatKind.f64.nearest 0 = 0 from by kernel_rfl] at this
  exact this
theorem isZ_1 : IsZ 4607182418800017408 1 := ⟨false, 1, ⟨52, by decide, by kernel_rfl⟩, rfl⟩
/-- What is checked of each part of an impedance. -/
def partOk (k : Nat) : Bool :=
  let n : Int := (k : Int) - 1000
  let x := FloatKind.f64.nearest n
  wildF x == false && wholeE x 13875379345695965184 4652007308841189376 == 0 && (if n < 0 then true else wholeE x 0 4652007308841189376 == 0) &&
    double.read (Op.negFloat .f64 x) == (double.read x).opposite
theorem parts_ok : (List.range 2001).all partOk = true := by kernel_rfl
theorem part_ok {n : Int} (h1 : -1000 ≤ n) (h2 : n ≤ 1000) : wildF (FloatKind.f64.nearest n) = false ∧ wholeE (FloatKind.f64.nearest n) 13875379345695965184 4652007308841189376 = 0 ∧ (0 ≤ n → wholeE (FloatKind.f64.nearest n) 0 4652007308841189376 = 0) ∧
    double.read (Op.negFloat .f64 (FloatKind.f64.nearest n)) = (double.read (FloatKind.f64.nearest n)).opposite := by
  have h := List.all_eq_true.1 parts_ok (n + 1000).toNat (by simp; omega)
  unfold partOk at h
  rw [show (((n + 1000).toNat : Nat) : Int) - 1000 = n by omega] at h
  simp only [Bool.and_eq_true, beq_iff_eq] at h
  obtain ⟨⟨⟨a, b⟩, c⟩, d⟩ := h
  refine ⟨a, b, fun q => ?_, d⟩
  rw [if_neg (by omega)] at c
  simpa using c
theorem isZ_neg {n : Int} (h1 : -1000 ≤ n) (h2 : n ≤ 1000) : IsZ (Op.negFloat .f64 (FloatKind.f64.nearest n)) (-n) := by
  obtain ⟨-, -, -, h⟩ := part_ok h1 h2
  obtain ⟨s, N, ⟨k, hk, h3⟩, e1⟩ := isZ_of (n := n) (by omega)
  rw [h3] at h
  refine ⟨!s, N, ⟨k, hk, h⟩, ?_⟩
  rw [e1]; unfold sgI; cases s <;> simp
/-- Each impedance of integers is one. -/
theorem imp_of {re im : Int} (h0 : 0 ≤ re) (h1 : re ≤ 1000) (h2 : -1000 ≤ im) (h3 : im ≤ 1000) : ImpOk (FloatKind.f64.nearest re) (FloatKind.f64.nearest im) re im := by
  obtain ⟨a1, a2, a3, a4⟩ := part_ok (n := re) (by omega) h1
  obtain ⟨b1, b2, b3, b4⟩ := part_ok h2 h3
  have za := isZ_of (n := re) (by omega)
  have zb := isZ_of (n := im) (by omega)
  have hb := imp_bd h0 h1 h2 h3
  have zn := isZ_neg h2 h3
  obtain ⟨s, s1, s2⟩ := isZ_sub za isZ_1 (by omega)
  obtain ⟨t, t1, t2⟩ := isZ_sub zb isZ_0 (by omega)
  obtain ⟨u, u1, u2⟩ := isZ_add za isZ_1 (by omega)
  rw [Int.sub_zero] at t2
  have m1 : (re - 1) * (re + 1) = re * re - 1 := by grind
  have m2 : im * -im = -(im * im) := by grind
  have m3 : (re - 1) * -im = im - re * im := by grind
  have m4 : im * (re + 1) = re * im + im := by grind
  obtain ⟨p, p1, p2⟩ := isZ_mul s2 u2 (by rw [m1]; omega)
  obtain ⟨v, v1, v2⟩ := isZ_mul t2 zn (by rw [m2]; omega)
  have hri : (re * im).natAbs ≤ 1000000 := by
    rw [Int.natAbs_mul]
    exact Nat.mul_le_mul (show re.natAbs ≤ 1000 by omega) (show im.natAbs ≤ 1000 by omega)
  obtain ⟨w, w1, w2⟩ := isZ_mul s2 zn (by rw [m3]; omega)
  obtain ⟨z, z1, z2⟩ := isZ_mul t2 u2 (by rw [m4]; omega)
  rw [m1] at p2
  rw [m2] at v2
  rw [m3] at w2
  rw [m4] at z2
  obtain ⟨x, x1, x2⟩ := isZ_sub p2 v2 (by omega)
  obtain ⟨y, y1, y2⟩ := isZ_add w2 z2 (by omega)
  refine ⟨isZ_nan za, isZ_nan zb, ?_, isZ_int za, isZ_int zb, h0, h1, h2, h3, s, t, u, ?_, u1, x, y, ?_, ?_, ?_⟩
  · unfold impE
    rw [a1, b1, a3 h0, b2]
    rfl
  · unfold cpxSub
    rw [show FloatKind.f64.format = double from rfl, s1, t1]
  · unfold cpxMul
    rw [show FloatKind.f64.format = double from rfl, p1, v1, w1, z1]
    simp only
    rw [x1, y1]
  · rw [isZ_int x2]; congr 1; omega
  · rw [isZ_int y2]; congr 1; omega
end Go.Fly
end
section
/- The law on the ground: what its walk needs. -/
namespace Go.Fly
open Go
def divBC : Contract := fun _ args =>
  match args with
  | [.int .i64 a, .int .i64 b] => ⟨0 ≤ a ∧ a ≤ 10000000000000 ∧ 0 ≤ b ∧ b ≤ 10000000000000, .int .i64 ((Nat.gcd a.toNat b.toNat : Nat) : Int), none⟩
  | _ => ⟨False, .top, none⟩
def lowBC : Contract := fun _ args =>
  match args with
  | [.int .i64 a, .int .i64 b] => ⟨(0 ≤ a ∧ a ≤ 10000000000000) ∧ 1 ≤ b ∧ b ≤ 10000000000000, .agg [.int .i64 (a.tdiv (Nat.gcd a.toNat b.toNat : Nat)), .int .i64 (b.tdiv (Nat.gcd a.toNat b.toNat : Nat))], none⟩
  | _ => ⟨False, .top, none⟩
attribute [go_sem] divBC lowBC
theorem near1 : FloatKind.f64.nearest 1 = 4607182418800017408 := by kernel_rfl
theorem near0 : FloatKind.f64.nearest 0 = 0 := by kernel_rfl
theorem imp10 : ImpOk 4607182418800017408 0 1 0 := by
  have := imp_of (re := 1) (im := 0) (by decide) (by decide) (by decide) (by decide)
  rw [near1, near0] at this
  exact this
theorem imp10_T : (∃ re im, ImpOk 4607182418800017408 0 re im) = True := eq_true ⟨_, _, imp10⟩
theorem fac10 : (facTop 1 0).tdiv (facBy 1 0) = 0 := by kernel_rfl
theorem fac10d : (facDen 1 0).tdiv (facBy 1 0) = 1 := by kernel_rfl
theorem fac10i : (0 : Int).tdiv (facBy 1 0) = 0 := by kernel_rfl
theorem reI_near {n : Int} (h1 : -1000 ≤ n) (h2 : n ≤ 1000) : reI (FloatKind.f64.nearest n) = n := by
  unfold reI
  rw [isZ_int (isZ_of (n := n) (by omega))]
  rfl
theorem arr3E_ok {n : Nat} {get : Nat → List V} {a b c d e f : Int} (hce : checkE n get a b c d e f = 0) {en : Nat → List V} (h : ∀ i, i < inN get 0 4 → 0 ≤ intAt en i ∧ intAt en i ≤ 10000000000000) : arr3E n get a b c d e f (inN get 0 4) en = 0 := by
  unfold arr3E
  rw [if_neg (by simp [hce])]
  refine firstL_zero.2 fun z hz => ?_
  simp only [List.mem_cons, List.not_mem_nil, or_false] at hz
  rcases hz with rfl | rfl
  · rw [err_zero (by decide)]; simp
  · exact rngs_zero.2 h
theorem tot3E_ok {n : Nat} {get : Nat → List V} {a b c d e f : Int} (hce : checkE n get a b c d e f = 0) {en : Nat → List V} (h : ∀ i, i < inN get 0 4 → 0 ≤ intAt en i ∧ intAt en i ≤ 1000000000) : tot3E n get a b c d e f (inN get 0 4) en = 0 := by
  unfold tot3E
  rw [if_neg (by simp [hce])]
  refine firstL_zero.2 fun z hz => ?_
  simp only [List.mem_cons, List.not_mem_nil, or_false] at hz
  rcases hz with rfl | rfl
  · rw [err_zero (by decide)]; simp
  · exact rngs_zero.2 h
theorem e_bd {n : Nat} {get : Nat → List V} {a b c d e f : Int} (hok : AirOk n get) (hp : PathOk a b c d e f) {k : Nat} (hk : k < inN get 0 4) :
    0 ≤ eLo n get a b c d e f k ∧ eLo n get a b c d e f k ≤ eHi n get a b c d e f k ∧ eHi n get a b c d e f k ≤ 1000 := by
  have hec := ech_bd hp
  obtain ⟨⟨q1, q2, q3⟩, ⟨q4, q5, q6⟩, q7⟩ := id hp
  exact q_bd hok ⟨hec.1, hec.2.1⟩ (by omega) (by omega) hk
/-- What arrives in total: at least what arrives directly, at most twice what is emitted. -/
theorem tot_le {E p q x y s d : Int} (hE : 0 ≤ E) (h1 : 0 ≤ p ∧ p ≤ q ∧ q ≤ 1000) (h2 : 0 ≤ x ∧ x ≤ y ∧ y ≤ 1000) (hs : 0 ≤ s) (hd : 1 ≤ d) (hsd : s ≤ d) :
    0 ≤ arrLo E p ∧ arrHi E q ≤ E ∧ arrLo E p ≤ agLo E p 1 1 + agLo E x s d ∧ arrHi E q ≤ agHi E q 1 1 + agHi E y s d ∧ agLo E p 1 1 + agLo E x s d ≤ agHi E q 1 1 + agHi E y s d ∧ agHi E q 1 1 + agHi E y s d ≤ 2 * E := by
  have a1 := ag_one E p
  have a2 := ag_one E q
  have b1 := ag_le (e := E) (p := x) (num := s) (den := d) hE h2.1 (by omega) hs hd hsd
  have b2 := ag_le (e := E) (p := y) (num := s) (den := d) hE (by omega) h2.2.2 hs hd hsd
  have b3 := ag_lh (e := E) (p := x) (q := y) (num := s) (den := d) hE h2.1 h2.2.1 hs hd
  have b4 := arr_bd (e := E) hE h1.1 h1.2.1 h1.2.2
  have b5 := ag_lh (e := E) (p := y) (q := y) (num := s) (den := d) hE (by omega) (Int.le_refl _) hs hd
  omega
end Go.Fly
end
