/- Part of a proof: an evaluator of the model's code by abstract values, and plain laws for it. No conditions. -/
import Derived.Test.YtlfciglmhomdpaaAG
set_option linter.unusedSimpArgs false
set_option linter.unusedVariables false
/- The float root of a quotient of integers, bounded. -/
set_option maxRecDepth 20000
namespace Go.Fly
open Go Ieee
theorem ex_pow (n : Nat) : ∃ c, 2 ^ n = c ∧ 0 < c := ⟨2 ^ n, rfl, Nat.two_pow_pos n⟩
theorem ex_num (n : Nat) : ∃ k, k = n := ⟨n, rfl⟩

def sc (m : Nat) (p : Int) : Nat := m * 2 ^ (p + 4000).toNat

theorem sc_pow (m k : Nat) {p : Int} (h : -4000 ≤ p) : sc (m * 2 ^ k) p = sc m (p + k) := by
  unfold sc
  rw [Nat.mul_assoc, ← Nat.pow_add]
  congr 2
  omega
theorem sc_le {m m' : Nat} {p : Int} (h : m ≤ m') : sc m p ≤ sc m' p := Nat.mul_le_mul_right _ h

theorem log2_bd {n : Nat} (h : 0 < n) : 2 ^ n.log2 ≤ n ∧ n < 2 ^ (n.log2 + 1) := ⟨Nat.log2_self_le (by omega), Nat.lt_log2_self⟩

theorem cut0 (neg : Bool) (n : Nat) : Toward.cut .even neg n 0 = n := by
  simp [Toward.cut, Nat.mod_one]

theorem cut_bd (neg : Bool) (n d : Nat) (h : d ≤ n.log2) : n / 2 ^ d ≤ Toward.cut .even neg n d ∧ Toward.cut .even neg n d ≤ n / 2 ^ d + 1 := by
  have e : min d (n.log2 + 2) = d := by omega
  simp only [Toward.cut, e, Nat.one_shiftLeft]
  generalize (decide (2 ^ d < 2 * (n % 2 ^ d)) || (2 ^ d == 2 * (n % 2 ^ d) && n / 2 ^ d % 2 == 1)) = b
  cases b <;> simp

/-- A kept significand at a place is read as it was written. -/
theorem read_rung {kept : Nat} {last : Int} (h1 : 4503599627370496 ≤ kept) (h2 : kept ≤ 9007199254740992) (h3 : -1074 ≤ last) (h4 : last ≤ 960) :
    ∃ m p, double.read (double.word false (min ((last - double.leastPlace).toNat * double.binade + kept) double.infRung)) = .number false m p ∧ 4503599627370496 ≤ m ∧ m < 9007199254740992 ∧ last ≤ p ∧ p ≤ last + 1 ∧ sc m p = sc kept last := by
  have e1 : double.leastPlace = -1074 := by decide
  have e2 : double.binade = 4503599627370496 := by decide
  have e3 : double.infRung = 2047 * 4503599627370496 := by decide
  have e4 : double.signWeight = 9223372036854775808 := by decide
  obtain ⟨L, hL⟩ : ∃ L : Nat, (last + 1074).toNat = L := ⟨_, rfl⟩
  have hLl : last = (L : Int) - 1074 := by omega
  have hLb : L ≤ 2034 := by omega
  rw [e1, e2, e3, show (last - -1074).toNat = L by omega, Nat.min_eq_left (by omega)]
  obtain ⟨rung, hr⟩ : ∃ rung : Nat, L * 4503599627370496 + kept = rung := ⟨_, rfl⟩
  rw [hr]
  simp only [Format.word, Bool.false_eq_true, if_false, Format.read, e1, e2, e3, e4]
  have f1 : rung / 9223372036854775808 = 0 := by omega
  have f2 : rung % 9223372036854775808 = rung := by omega
  rw [f1, f2, if_neg (by omega), if_pos (by omega)]
  refine ⟨_, _, rfl, by omega, by omega, ?_, ?_, ?_⟩
  · omega
  · omega
  · by_cases q : kept = 9007199254740992
    · have g1 : rung % 4503599627370496 = 0 := by omega
      have g2 : rung / 4503599627370496 - 1 = L + 1 := by omega
      rw [g1, g2, q, hLl]
      show sc 4503599627370496 _ = sc (4503599627370496 * 2 ^ 1) _
      rw [sc_pow _ _ (by omega)]
      congr 1 <;> omega
    · have g1 : 4503599627370496 + rung % 4503599627370496 = kept := by omega
      have g2 : rung / 4503599627370496 - 1 = L := by omega
      rw [g1, g2, hLl]
      congr 1 <;> omega

theorem read_nearest {mag : Nat} {place : Int} (hm : 0 < mag) (h0 : -3000 ≤ place) (h1 : -1022 ≤ place + mag.log2) (h2 : place + mag.log2 ≤ 1000) :
    ∃ m p, double.read (double.nearest false mag place) = .number false m p ∧ 4503599627370496 ≤ m ∧ m < 9007199254740992 ∧ place + mag.log2 - 52 ≤ p ∧ p ≤ place + mag.log2 - 51 ∧
      8 * sc m p ≤ 9 * sc mag place ∧ (mag < 9007199254740992 → sc m p = sc mag place) := by
  obtain ⟨b1, b2⟩ := log2_bd hm
  have e0 : double.fractionBits = 52 := rfl
  have e1 : double.leastPlace = -1074 := by decide
  unfold Format.nearest
  rw [if_neg (by omega)]
  simp only [e0]
  have el : max (place + ↑mag.log2 - ((52 : Nat) : Int)) double.leastPlace = place + mag.log2 - 52 := by rw [e1]; omega
  rw [el]
  by_cases hc : mag.log2 ≤ 52
  · obtain ⟨k, hk⟩ : ∃ k : Nat, mag.log2 + k = 52 := ⟨52 - mag.log2, by omega⟩
    have g1 : (place - (place + ↑mag.log2 - 52)).toNat = k := by omega
    have g2 : ((place + ↑mag.log2 - 52) - place).toNat = 0 := by omega
    rw [g1, g2, cut0, Nat.shiftLeft_eq]
    have k1 : 4503599627370496 ≤ mag * 2 ^ k := by
      have : 2 ^ mag.log2 * 2 ^ k ≤ mag * 2 ^ k := Nat.mul_le_mul_right _ b1
      rw [← Nat.pow_add, hk] at this
      exact this
    have k2 : mag * 2 ^ k < 9007199254740992 := by
      have : mag * 2 ^ k < 2 ^ (mag.log2 + 1) * 2 ^ k := Nat.mul_lt_mul_of_pos_right b2 (Nat.two_pow_pos k)
      rw [← Nat.pow_add, show mag.log2 + 1 + k = 53 by omega] at this
      exact this
    obtain ⟨m, p, q1, q2, q3, q4, q5, q6⟩ := read_rung k1 (by omega) (last := place + mag.log2 - 52) (by omega) (by omega)
    have es : sc m p = sc mag place := by
      rw [q6, sc_pow _ _ (by omega)]
      congr 1 <;> omega
    exact ⟨m, p, q1, q2, q3, q4, by omega, by omega, fun _ => es⟩
  · obtain ⟨d, hd⟩ : ∃ d : Nat, mag.log2 = 52 + d := ⟨mag.log2 - 52, by omega⟩
    have g1 : (place - (place + ↑mag.log2 - 52)).toNat = 0 := by omega
    have g2 : ((place + ↑mag.log2 - 52) - place).toNat = d := by omega
    rw [g1, g2, Nat.shiftLeft_zero]
    obtain ⟨c1, c2⟩ := cut_bd false mag d (by omega)
    have hp : 0 < 2 ^ d := Nat.two_pow_pos d
    rw [hd, Nat.pow_add] at b1
    rw [hd, show 52 + d + 1 = 53 + d by omega, Nat.pow_add] at b2
    have k1 : 4503599627370496 ≤ mag / 2 ^ d := (Nat.le_div_iff_mul_le hp).2 b1
    have k2 : mag / 2 ^ d < 9007199254740992 := (Nat.div_lt_iff_lt_mul hp).2 b2
    obtain ⟨kept, hkept⟩ : ∃ kept, Toward.cut .even false mag d = kept := ⟨_, rfl⟩
    rw [hkept] at c1 c2 ⊢
    obtain ⟨m, p, q1, q2, q3, q4, q5, q6⟩ := read_rung (kept := kept) (by omega) (by omega) (last := place + mag.log2 - 52) (by omega) (by omega)
    refine ⟨m, p, q1, q2, q3, q4, by omega, ?_, fun hlt => absurd hlt ?_⟩
    · rw [q6, show place + (mag.log2 : Int) - 52 = place + (d : Int) by omega, ← sc_pow _ _ (by omega)]
      have : kept * 2 ^ d ≤ mag + 2 ^ d := by
        have a1 : kept * 2 ^ d ≤ (mag / 2 ^ d + 1) * 2 ^ d := Nat.mul_le_mul_right _ c2
        have a2 : mag / 2 ^ d * 2 ^ d ≤ mag := Nat.div_mul_le_self _ _
        rw [Nat.add_mul, Nat.one_mul] at a1
        omega
      have h9 : 8 * (kept * 2 ^ d) ≤ 9 * mag := by
        have : 4503599627370496 * 2 ^ d ≤ mag := b1
        omega
      have := sc_le (p := place) h9
      unfold sc at this ⊢
      rw [Nat.mul_assoc 8, Nat.mul_assoc 9] at this
      exact this
    · have : 4503599627370496 * 2 ^ d ≤ mag := b1
      have h1d : 1 ≤ d := by omega
      have : 2 ^ 1 ≤ 2 ^ d := Nat.pow_le_pow_right (by omega) h1d
      omega

theorem rootFrom_sq (n : Nat) : ∀ (todo root : Nat), root * root ≤ n → Datum.rootFrom n todo root * Datum.rootFrom n todo root ≤ n
  | 0, root, h => h
  | todo + 1, root, h => by
    unfold Datum.rootFrom
    apply rootFrom_sq
    split
    · assumption
    · exact h

/-- The root of a quotient, as floats give it: its square times the divisor is at most three times the dividend. -/
theorem guess_ok (S T : Nat) (hS : S ≤ 576460752303423488) (hT : 0 < T) (hT2 : T < 9007199254740992) :
    ∃ q r n, FloatKind.f64.format.div (FloatKind.f64.nearest S) (FloatKind.f64.nearest T) = some q ∧ FloatKind.f64.format.sqrt q = some r ∧ (FloatKind.f64.decode r).toInt .zero = some ((n : Nat) : Int) ∧ n * n * T ≤ 3 * S := by
  have hf : FloatKind.f64.format = double := rfl
  have hnear : ∀ n : Nat, FloatKind.f64.nearest (n : Int) = double.nearest false n 0 := fun n => by
    have : decide ((n : Int) < 0) = false := decide_eq_false (by omega)
    simp only [FloatKind.nearest, FloatKind.encode, hf, Format.write, this, Int.natAbs_natCast]
  rw [hnear, hnear, hf]
  obtain ⟨t1, t2⟩ := log2_bd hT
  have tl : T.log2 ≤ 52 := by
    have := (Nat.log2_lt (by omega : T ≠ 0) (k := 53)).2 (by omega)
    omega
  obtain ⟨mb, pb, b1, b2, b3, b4, b5, _, b6⟩ := read_nearest (mag := T) (place := 0) hT (by omega) (by omega) (by omega)
  have b6 := b6 hT2
  have hmb : mb.log2 = 52 := (Nat.log2_eq_iff (by omega)).2 ⟨by omega, by omega⟩
  rcases Nat.eq_zero_or_pos S with rfl | hS0
  · have z1 : double.nearest false 0 0 = 0 := rfl
    have z2 : double.read 0 = .number false 0 (-1074) := by decide
    have z3 : ∀ p, double.nearest false 0 p = 0 := fun p => rfl
    refine ⟨0, 0, 0, ?_, ?_, ?_, by simp⟩
    · unfold Format.div
      rw [z1, z2, b1]
      simp only [Datum.quotient]
      rw [if_neg (by omega)]
      simp [Format.write, z3]
    · unfold Format.sqrt
      rw [z2]
      simp [Datum.root, Format.write, z3]
    · simp only [FloatKind.decode, hf, z2]
      simp [Datum.toInt, Datum.integral, Toward.cut, signed]
  obtain ⟨s1, s2⟩ := log2_bd hS0
  have sl : S.log2 ≤ 59 := by
    have := (Nat.log2_lt (by omega : S ≠ 0) (k := 60)).2 (by omega)
    omega
  obtain ⟨ma, pa, a1, a2, a3, a4, a5, a6, _⟩ := read_nearest (mag := S) (place := 0) hS0 (by omega) (by omega) (by omega)
  have hma : ma.log2 = 52 := (Nat.log2_eq_iff (by omega)).2 ⟨by omega, by omega⟩
  -- the quotient
  obtain ⟨x, hx⟩ : ∃ x, (ma * 18014398509481984) / mb = x := ⟨_, rfl⟩
  obtain ⟨st, hst⟩ : ∃ st, ((ma * 18014398509481984) % mb != 0).toNat = st := ⟨_, rfl⟩
  have hst1 : st ≤ 1 := by rw [← hst]; exact Bool.toNat_le _
  have x1 : 9007199254740992 ≤ x := by
    rw [← hx]; refine (Nat.le_div_iff_mul_le (by omega)).2 ?_
    omega
  have x2 : x ≤ 36028797018963968 := by
    have : x < 36028797018963969 := by
      rw [← hx]; refine (Nat.div_lt_iff_lt_mul (by omega)).2 ?_
      omega
    omega
  have x3 : x * mb ≤ ma * 18014398509481984 := by rw [← hx]; exact Nat.div_mul_le_self _ _
  obtain ⟨g, hg⟩ : ∃ g, 2 * x + st = g := ⟨_, rfl⟩
  have hq : (double.read (double.nearest false S 0)).quotient (double.fractionBits + 2) (double.read (double.nearest false T 0)) = some (.number false g (pa - pb - 55)) := by
    rw [a1, b1]
    simp only [Datum.quotient]
    rw [if_neg (by omega), hma, hmb]
    have e0 : double.fractionBits + 2 + 52 - 52 = 54 := rfl
    rw [e0, Nat.shiftLeft_eq, show (2 : Nat) ^ 54 = 18014398509481984 by rfl, hx, hst, hg]
    show some (Datum.number false g (pa - pb - ((54 : Nat) : Int) - 1)) = _
    congr 2 <;> omega
  have hgl : 54 ≤ g.log2 ∧ g.log2 ≤ 57 := by
    have h1 := (Nat.le_log2 (by omega : g ≠ 0) (k := 54)).2 (by omega)
    have h2 := (Nat.log2_lt (by omega : g ≠ 0) (k := 58)).2 (by omega)
    omega
  obtain ⟨mq, pq, q1, q2, q3, q4, q5, q6, _⟩ := read_nearest (mag := g) (place := pa - pb - 55) (by omega) (by omega) (by omega) (by omega)
  have hmq : mq.log2 = 52 := (Nat.log2_eq_iff (by omega)).2 ⟨by omega, by omega⟩
  -- the root
  obtain ⟨more, hmore⟩ : ∃ more : Nat, 56 + ((pq - 56) % 2).toNat = more := ⟨_, rfl⟩
  have hmb1 : more ≤ 57 ∧ 56 ≤ more := by omega
  have hev : (pq - more) % 2 = 0 := by omega
  obtain ⟨N, hN⟩ : ∃ N, mq <<< more = N := ⟨_, rfl⟩
  have hN2 : N = mq * 2 ^ more := by rw [← hN, Nat.shiftLeft_eq]
  have hNpos : 0 < N := by rw [hN2]; exact Nat.mul_pos (by omega) (Nat.two_pow_pos _)
  obtain ⟨w, hw⟩ : ∃ w, Datum.rootFrom N (N.log2 / 2 + 1) 0 = w := ⟨_, rfl⟩
  have hww : w * w ≤ N := by rw [← hw]; exact rootFrom_sq N _ 0 (by omega)
  obtain ⟨sr, hsr⟩ : ∃ sr, (w * w != N).toNat = sr := ⟨_, rfl⟩
  have hsr1 : sr ≤ 1 := by rw [← hsr]; exact Bool.toNat_le _
  obtain ⟨h, hh⟩ : ∃ h, 2 * w + sr = h := ⟨_, rfl⟩
  have hr : (double.read (double.nearest false g (pa - pb - 55))).root (double.fractionBits + 2) = some (.number false h ((pq - more) / 2 - 1)) := by
    rw [q1]
    simp only [Datum.root]
    rw [if_neg (by omega), hmq]
    have e0 : 2 * (double.fractionBits + 2) - 52 = 56 := rfl
    rw [e0]
    simp only [Bool.false_eq_true, if_false]
    rw [show 56 + ((pq - ((56 : Nat) : Int)) % 2).toNat = more by omega, hN, hw, hsr, hh]
  have hwb : w < 1152921504606846976 := by
    apply Decidable.byContradiction
    intro hc
    have h1 : 1152921504606846976 * 1152921504606846976 ≤ w * w := by
      have e : 1152921504606846976 ≤ w := by omega
      exact Nat.mul_le_mul e e
    have h2 : N < 9007199254740992 * 144115188075855872 := by
      rw [hN2]
      have : 2 ^ more ≤ 2 ^ 57 := Nat.pow_le_pow_right (by omega) hmb1.1
      exact Nat.lt_of_le_of_lt (Nat.mul_le_mul_left _ this) (by omega)
    omega
  have hh0 : 0 < h := by
    rcases Nat.eq_zero_or_pos w with e | e
    · have : sr = 1 := by
        rw [← hsr, e]
        have : ((0 * 0 != N) : Bool) = true := by simp; omega
        rw [this]; rfl
      omega
    · omega
  have hhl : h.log2 ≤ 61 := by
    have := (Nat.log2_lt (by omega : h ≠ 0) (k := 62)).2 (by omega)
    omega
  have hh5 : h * h ≤ 5 * N := by
    rcases Nat.eq_zero_or_pos w with e | e
    · have : h ≤ 1 := by omega
      have : h * h ≤ 1 * 1 := Nat.mul_le_mul this this
      omega
    · have h1 : h * h ≤ (2 * w + 1) * (2 * w + 1) := Nat.mul_le_mul (by omega) (by omega)
      have h2 : (2 * w + 1) * (2 * w + 1) = 4 * (w * w) + 4 * w + 1 := by
        rw [Nat.add_mul, Nat.mul_add, Nat.mul_add]
        have : 2 * w * (2 * w) = 4 * (w * w) := by rw [Nat.mul_mul_mul_comm]
        omega
      by_cases hbig : w < 16
      · have : N ≥ 4503599627370496 := by
          rw [hN2]
          have : 1 ≤ 2 ^ more := Nat.one_le_two_pow
          have := Nat.mul_le_mul_left mq this
          omega
        have : w * w ≤ 16 * 16 := Nat.mul_le_mul (by omega) (by omega)
        omega
      · have : 16 * w ≤ w * w := Nat.mul_le_mul_right _ (by omega)
        omega
  obtain ⟨ms, ps, r1, r2, r3, r4, r5, r6, _⟩ := read_nearest (mag := h) (place := (pq - more) / 2 - 1) hh0 (by omega) (by omega) (by omega)
  -- the integer
  obtain ⟨d, hd⟩ : ∃ d : Nat, ps = -(d : Int) := ⟨(-ps).toNat, by omega⟩
  obtain ⟨n, hn⟩ : ∃ n, Toward.cut .zero false (ms <<< ps.toNat) (-ps).toNat = n := ⟨_, rfl⟩
  have hn2 : n * 2 ^ d ≤ ms := by
    rw [← hn, show ps.toNat = 0 by omega, show (-ps).toNat = d by omega, Nat.shiftLeft_zero]
    simp only [Toward.cut, Nat.one_shiftLeft, Bool.toNat_false, Nat.add_zero]
    by_cases hc : d ≤ ms.log2 + 2
    · rw [Nat.min_eq_left hc]; exact Nat.div_mul_le_self _ _
    · rw [Nat.min_eq_right (by omega)]
      have : ms < 2 ^ (ms.log2 + 2) := Nat.lt_of_lt_of_le Nat.lt_log2_self (Nat.pow_le_pow_right (by omega) (by omega))
      rw [Nat.div_eq_of_lt this]
      omega
  refine ⟨double.write (.number false g (pa - pb - 55)), double.write (.number false h ((pq - more) / 2 - 1)), n, ?_, ?_, ?_, ?_⟩
  · unfold Format.div
    rw [hq]
    rfl
  · unfold Format.sqrt
    simp only [Format.write]
    rw [hr]
    rfl
  · simp only [FloatKind.decode, hf, Format.write]
    rw [r1]
    simp only [Datum.toInt, Datum.integral, hn, signed]
    simp
  -- all together
  obtain ⟨E, hE⟩ := ex_num 4000
  obtain ⟨c, hc, hcpos⟩ := ex_pow E
  have sc0 : ∀ m, sc m 0 = m * 2 ^ E := fun m => by
    unfold sc
    congr 2
    omega
  have i1 : 8 * sc ma pa ≤ 9 * (S * c) := by rw [← hc, ← sc0]; exact a6
  have i2 : sc mb pb = T * c := by rw [← hc, ← sc0]; exact b6
  have i3 : 8 * (sc g (pa - pb - 55) * T) ≤ 9 * sc ma pa := by
    have hk : 8 * (g * mb) ≤ 18 * (ma * 18014398509481984) := by
      have e : g * mb ≤ (2 * x + 1) * mb := Nat.mul_le_mul_right _ (by omega)
      have e2 : (2 * x + 1) * mb = 2 * (x * mb) + mb := by rw [Nat.add_mul, Nat.mul_assoc, Nat.one_mul]
      have e3 : 9007199254740992 * mb ≤ x * mb := Nat.mul_le_mul_right _ x1
      omega
    have e1 : sc g (pa - pb - 55) * sc mb pb = g * mb * 2 ^ (pa + 7945).toNat := by
      unfold sc
      rw [Nat.mul_mul_mul_comm, ← Nat.pow_add]
      congr 2
      omega
    have e2 : sc ma pa * c = ma * 2 ^ 55 * 2 ^ (pa + 7945).toNat := by
      unfold sc
      rw [← hc, Nat.mul_assoc, Nat.mul_assoc, ← Nat.pow_add, ← Nat.pow_add]
      congr 2
      omega
    have e3 : 8 * (sc g (pa - pb - 55) * sc mb pb) ≤ 9 * (sc ma pa * c) := by
      rw [e1, e2, ← Nat.mul_assoc, ← Nat.mul_assoc 9]
      refine Nat.mul_le_mul_right _ ?_
      have : (2 : Nat) ^ 55 = 36028797018963968 := rfl
      omega
    rw [i2, ← Nat.mul_assoc (sc g _), ← Nat.mul_assoc, ← Nat.mul_assoc 9] at e3
    exact Nat.le_of_mul_le_mul_right e3 hcpos
  have i5 : 4 * (sc h ((pq - more) / 2 - 1) * sc h ((pq - more) / 2 - 1)) ≤ 5 * (sc mq pq * c) := by
    have e1 : sc h ((pq - more) / 2 - 1) * sc h ((pq - more) / 2 - 1) = h * h * 2 ^ (pq - more - 2 + 8000).toNat := by
      unfold sc
      rw [Nat.mul_mul_mul_comm, ← Nat.pow_add]
      congr 2
      omega
    have e2 : sc mq pq * c = N * 2 ^ (pq - more + 8000).toNat := by
      unfold sc
      rw [← hc, hN2, Nat.mul_assoc, Nat.mul_assoc, ← Nat.pow_add, ← Nat.pow_add]
      congr 2
      omega
    have e3 : (2 : Nat) ^ (pq - more + 8000).toNat = 4 * 2 ^ (pq - more - 2 + 8000).toNat := by
      rw [show (pq - more + 8000).toNat = 2 + (pq - more - 2 + 8000).toNat by omega, Nat.pow_add]
    rw [e1, e2, e3]
    have := Nat.mul_le_mul_right (4 * 2 ^ (pq - more - 2 + 8000).toNat) hh5
    calc 4 * (h * h * 2 ^ (pq - more - 2 + 8000).toNat) = h * h * (4 * 2 ^ (pq - more - 2 + 8000).toNat) := by ac_rfl
      _ ≤ 5 * N * (4 * 2 ^ (pq - more - 2 + 8000).toNat) := this
      _ = 5 * (N * (4 * 2 ^ (pq - more - 2 + 8000).toNat)) := by rw [Nat.mul_assoc]
  have i7 : n * c ≤ sc ms ps := by
    have : n * 2 ^ d * 2 ^ (ps + 4000).toNat ≤ sc ms ps := Nat.mul_le_mul_right _ hn2
    rw [Nat.mul_assoc, ← Nat.pow_add, show d + (ps + 4000).toNat = E by omega, hc] at this
    exact this
  generalize sc ms ps = vs at *
  generalize sc h ((pq - more) / 2 - 1) = vr at *
  generalize sc mq pq = vq at *
  generalize sc g (pa - pb - 55) = vg at *
  generalize sc ma pa = va at *
  have j1 : 64 * ((n * c) * (n * c)) ≤ 81 * (vr * vr) := by
    have : 8 * (n * c) ≤ 9 * vr := by omega
    have := Nat.mul_le_mul this this
    calc 64 * ((n * c) * (n * c)) = 8 * (n * c) * (8 * (n * c)) := by ac_rfl
      _ ≤ 9 * vr * (9 * vr) := this
      _ = 81 * (vr * vr) := by ac_rfl
  have j2 : 256 * (n * n * c) ≤ 405 * vq := by
    have e : 256 * ((n * c) * (n * c)) ≤ 405 * (vq * c) := by omega
    have : 256 * (n * n * c) * c ≤ 405 * vq * c := by
      calc 256 * (n * n * c) * c = 256 * ((n * c) * (n * c)) := by ac_rfl
        _ ≤ 405 * (vq * c) := e
        _ = 405 * vq * c := by rw [Nat.mul_assoc]
    exact Nat.le_of_mul_le_mul_right this hcpos
  have j3 : 2048 * (n * n * c) ≤ 3645 * vg := by omega
  have j4 : 16384 * (n * n * T * c) ≤ 32805 * va := by
    have := Nat.mul_le_mul_right (8 * T) j3
    have e1 : 2048 * (n * n * c) * (8 * T) = 16384 * (n * n * T * c) := by ac_rfl
    have e2 : 3645 * vg * (8 * T) = 3645 * (8 * (vg * T)) := by ac_rfl
    rw [e1, e2] at this
    omega
  have j5 : 131072 * (n * n * T) * c ≤ 295245 * S * c := by
    rw [Nat.mul_assoc, Nat.mul_assoc 295245]
    omega
  have := Nat.le_of_mul_le_mul_right j5 hcpos
  omega
end Go.Fly
