/- Part of a proof: an evaluator of the model's code by abstract values, and plain laws for it. No conditions. -/
import Derived.Test.YtfpoimbidpojnaaGreatDoorAH
import Derived.Laws.Externs
set_option linter.unusedSimpArgs false
set_option linter.unusedVariables false
section
/- The float root of a quotient of integers, bounded. -/
set_option maxRecDepth 20000
namespace Go.Fly
open Go Ieee
theorem ex_pow (n : Nat) : ∃ c, 2 ^ n = c ∧ 0 < c := ⟨2 ^ n, rfl, Nat.two_pow_pos n⟩
theorem ex_num (n : Nat) : ∃ k, k = n := ⟨n, rfl⟩

def sc (m : Nat) (p : Int) : Nat := m * 2 ^ (p + 4000).toNat

theorem sc_pow (m k : Nat) {p : Int} (h : -4000 ≤ p) : sc (m * 2 ^ k) p = sc m (p + k) := by
  unfold sc
  rw [Nat.mul_assoc, ← Nat.pow_add]
  congr 2
  omega
theorem sc_le {m m' : Nat} {p : Int} (h : m ≤ m') : sc m p ≤ sc m' p := Nat.mul_le_mul_right _ h

theorem log2_bd {n : Nat} (h : 0 < n) : 2 ^ n.log2 ≤ n ∧ n < 2 ^ (n.log2 + 1) := ⟨Nat.log2_self_le (by omega), Nat.lt_log2_self⟩

theorem cut0 (neg : Bool) (n : Nat) : Toward.cut .even neg n 0 = n := by
  simp [Toward.cut, Nat.mod_one]

theorem cut_bd (neg : Bool) (n d : Nat) (h : d ≤ n.log2) : n / 2 ^ d ≤ Toward.cut .even neg n d ∧ Toward.cut .even neg n d ≤ n / 2 ^ d + 1 := by
  have e : min d (n.log2 + 2) = d := by omega
  simp only [Toward.cut, e, Nat.one_shiftLeft]
  generalize (decide (2 ^ d < 2 * (n % 2 ^ d)) || (2 ^ d == 2 * (n % 2 ^ d) && n / 2 ^ d % 2 == 1)) = b
  cases b <;> simp

/-- A kept significand at a place is read as it was written. -/
theorem read_rung {kept : Nat} {last : Int} (h1 : 4503599627370496 ≤ kept) (h2 : kept ≤ 9007199254740992) (h3 : -1074 ≤ last) (h4 : last ≤ 960) :
    ∃ m p, double.read (double.word false (min ((last - double.leastPlace).toNat * double.binade + kept) double.infRung)) = .number false m p ∧ 4503599627370496 ≤ m ∧ m < 9007199254740992 ∧ last ≤ p ∧ p ≤ last + 1 ∧ sc m p = sc kept last := by
  have e1 : double.leastPlace = -1074 := by decide
  have e2 : double.binade = 4503599627370496 := by decide
  have e3 : double.infRung = 2047 * 4503599627370496 := by decide
  have e4 : double.signWeight = 9223372036854775808 := by decide
  obtain ⟨L, hL⟩ : ∃ L : Nat, (last + 1074).toNat = L := ⟨_, rfl⟩
  have hLl : last = (L : Int) - 1074 := by omega
  have hLb : L ≤ 2034 := by omega
  rw [e1, e2, e3, show (last - -1074).toNat = L by omega, Nat.min_eq_left (by omega)]
  obtain ⟨rung, hr⟩ : ∃ rung : Nat, L * 4503599627370496 + kept = rung := ⟨_, rfl⟩
  rw [hr]
  simp only [Format.word, Bool.false_eq_true, if_false, Format.read, e1, e2, e3, e4]
  have f1 : rung / 9223372036854775808 = 0 := by omega
  have f2 : rung % 9223372036854775808 = rung := by omega
  rw [f1, f2, if_neg (by omega), if_pos (by omega)]
  refine ⟨_, _, rfl, by omega, by omega, ?_, ?_, ?_⟩
  · omega
  · omega
  · by_cases q : kept = 9007199254740992
    · have g1 : rung % 4503599627370496 = 0 := by omega
      have g2 : rung / 4503599627370496 - 1 = L + 1 := by omega
      rw [g1, g2, q, hLl]
      show sc 4503599627370496 _ = sc (4503599627370496 * 2 ^ 1) _
      rw [sc_pow _ _ (by omega)]
      congr 1 <;> omega
    · have g1 : 4503599627370496 + rung % 4503599627370496 = kept := by omega
      have g2 : rung / 4503599627370496 - 1 = L := by omega
      rw [g1, g2, hLl]
      congr 1 <;> omega

theorem read_nearest {mag : Nat} {place : Int} (hm : 0 < mag) (h0 : -3000 ≤ place) (h1 : -1022 ≤ place + mag.log2) (h2 : place + mag.log2 ≤ 1000) :
    ∃ m p, double.read (double.nearest false mag place) = .number false m p ∧ 4503599627370496 ≤ m ∧ m < 9007199254740992 ∧ place + mag.log2 - 52 ≤ p ∧ p ≤ place + mag.log2 - 51 ∧
      8 * sc m p ≤ 9 * sc mag place ∧ (mag < 9007199254740992 → sc m p = sc mag place) := by
  obtain ⟨b1, b2⟩ := log2_bd hm
  have e0 : double.fractionBits = 52 := rfl
  have e1 : double.leastPlace = -1074 := by decide
  unfold Format.nearest
  rw [if_neg (by omega)]
  simp only [e0]
  have el : max (place + ↑mag.log2 - ((52 : Nat) : Int)) double.leastPlace = place + mag.log2 - 52 := by rw [e1]; omega
  rw [el]
  by_cases hc : mag.log2 ≤ 52
  · obtain ⟨k, hk⟩ : ∃ k : Nat, mag.log2 + k = 52 := ⟨52 - mag.log2, by omega⟩
    have g1 : (place - (place + ↑mag.log2 - 52)).toNat = k := by omega
    have g2 : ((place + ↑mag.log2 - 52) - place).toNat = 0 := by omega
    rw [g1, g2, cut0, Nat.shiftLeft_eq]
    have k1 : 4503599627370496 ≤ mag * 2 ^ k := by
      have : 2 ^ mag.log2 * 2 ^ k ≤ mag * 2 ^ k := Nat.mul_le_mul_right _ b1
      rw [← Nat.pow_add, hk] at this
      exact this
    have k2 : mag * 2 ^ k < 9007199254740992 := by
      have : mag * 2 ^ k < 2 ^ (mag.log2 + 1) * 2 ^ k := Nat.mul_lt_mul_of_pos_right b2 (Nat.two_pow_pos k)
      rw [← Nat.pow_add, show mag.log2 + 1 + k = 53 by omega] at this
      exact this
    obtain ⟨m, p, q1, q2, q3, q4, q5, q6⟩ := read_rung k1 (by omega) (last := place + mag.log2 - 52) (by omega) (by omega)
    have es : sc m p = sc mag place := by
      rw [q6, sc_pow _ _ (by omega)]
      congr 1 <;> omega
    exact ⟨m, p, q1, q2, q3, q4, by omega, by omega, fun _ => es⟩
  · obtain ⟨d, hd⟩ : ∃ d : Nat, mag.log2 = 52 + d := ⟨mag.log2 - 52, by omega⟩
    have g1 : (place - (place + ↑mag.log2 - 52)).toNat = 0 := by omega
    have g2 : ((place + ↑mag.log2 - 52) - place).toNat = d := by omega
    rw [g1, g2, Nat.shiftLeft_zero]
    obtain ⟨c1, c2⟩ := cut_bd false mag d (by omega)
    have hp : 0 < 2 ^ d := Nat.two_pow_pos d
    rw [hd, Nat.pow_add] at b1
    rw [hd, show 52 + d + 1 = 53 + d by omega, Nat.pow_add] at b2
    have k1 : 4503599627370496 ≤ mag / 2 ^ d := (Nat.le_div_iff_mul_le hp).2 b1
    have k2 : mag / 2 ^ d < 9007199254740992 := (Nat.div_lt_iff_lt_mul hp).2 b2
    obtain ⟨kept, hkept⟩ : ∃ kept, Toward.cut .even false mag d = kept := ⟨_, rfl⟩
    rw [hkept] at c1 c2 ⊢
    obtain ⟨m, p, q1, q2, q3, q4, q5, q6⟩ := read_rung (kept := kept) (by omega) (by omega) (last := place + mag.log2 - 52) (by omega) (by omega)
    refine ⟨m, p, q1, q2, q3, q4, by omega, ?_, fun hlt => absurd hlt ?_⟩
    · rw [q6, show place + (mag.log2 : Int) - 52 = place + (d : Int) by omega, ← sc_pow _ _ (by omega)]
      have : kept * 2 ^ d ≤ mag + 2 ^ d := by
        have a1 : kept * 2 ^ d ≤ (mag / 2 ^ d + 1) * 2 ^ d := Nat.mul_le_mul_right _ c2
        have a2 : mag / 2 ^ d * 2 ^ d ≤ mag := Nat.div_mul_le_self _ _
        rw [Nat.add_mul, Nat.one_mul] at a1
        omega
      have h9 : 8 * (kept * 2 ^ d) ≤ 9 * mag := by
        have : 4503599627370496 * 2 ^ d ≤ mag := b1
        omega
      have := sc_le (p := place) h9
      unfold sc at this ⊢
      rw [Nat.mul_assoc 8, Nat.mul_assoc 9] at this
      exact this
    · have : 4503599627370496 * 2 ^ d ≤ mag := b1
      have h1d : 1 ≤ d := by omega
      have : 2 ^ 1 ≤ 2 ^ d := Nat.pow_le_pow_right (by omega) h1d
      omega

theorem rootFrom_sq (n : Nat) : ∀ (todo root : Nat), root * root ≤ n → Datum.rootFrom n todo root * Datum.rootFrom n todo root ≤ n
  | 0, root, h => h
  | todo + 1, root, h => by
    unfold Datum.rootFrom
    apply rootFrom_sq
    split
    · assumption
    · exact h

/-- The root of a quotient, as floats give it: its square times the divisor is at most three times the dividend. -/
theorem guess_ok (S T : Nat) (hS : S ≤ 576460752303423488) (hT : 0 < T) (hT2 : T < 9007199254740992) :
    ∃ q r n, FloatKind.f64.format.div (FloatKind.f64.nearest S) (FloatKind.f64.nearest T) = some q ∧ FloatKind.f64.format.sqrt q = some r ∧ (FloatKind.f64.decode r).toInt .zero = some ((n : Nat) : Int) ∧ n * n * T ≤ 3 * S := by
  have hf : FloatKind.f64.format = double := rfl
  have hnear : ∀ n : Nat, FloatKind.f64.nearest (n : Int) = double.nearest false n 0 := fun n => by
    have : decide ((n : Int) < 0) = false := decide_eq_false (by omega)
    simp only [FloatKind.nearest, FloatKind.encode, hf, Format.write, this, Int.natAbs_natCast]
  rw [hnear, hnear, hf]
  obtain ⟨t1, t2⟩ := log2_bd hT
  have tl : T.log2 ≤ 52 := by
    have := (Nat.log2_lt (by omega : T ≠ 0) (k := 53)).2 (by omega)
    omega
  obtain ⟨mb, pb, b1, b2, b3, b4, b5, _, b6⟩ := read_nearest (mag := T) (place := 0) hT (by omega) (by omega) (by omega)
  have b6 := b6 hT2
  have hmb : mb.log2 = 52 := (Nat.log2_eq_iff (by omega)).2 ⟨by omega, by omega⟩
  rcases Nat.eq_zero_or_pos S with rfl | hS0
  · have z1 : double.nearest false 0 0 = 0 := rfl
    have z2 : double.read 0 = .number false 0 (-1074) := by decide
    have z3 : ∀ p, double.nearest false 0 p = 0 := fun p => rfl
    refine ⟨0, 0, 0, ?_, ?_, ?_, by simp⟩
    · unfold Format.div
      rw [z1, z2, b1]
      simp only [Datum.quotient]
      rw [if_neg (by omega)]
      simp [Format.write, z3]
    · unfold Format.sqrt
      rw [z2]
      simp [Datum.root, Format.write, z3]
    · simp only [FloatKind.decode, hf, z2]
      simp [Datum.toInt, Datum.integral, Toward.cut, signed]
  obtain ⟨s1, s2⟩ := log2_bd hS0
  have sl : S.log2 ≤ 59 := by
    have := (Nat.log2_lt (by omega : S ≠ 0) (k := 60)).2 (by omega)
    omega
  obtain ⟨ma, pa, a1, a2, a3, a4, a5, a6, _⟩ := read_nearest (mag := S) (place := 0) hS0 (by omega) (by omega) (by omega)
  have hma : ma.log2 = 52 := (Nat.log2_eq_iff (by omega)).2 ⟨by omega, by omega⟩
  -- the quotient
  obtain ⟨x, hx⟩ : ∃ x, (ma * 18014398509481984) / mb = x := ⟨_, rfl⟩
  obtain ⟨st, hst⟩ : ∃ st, ((ma * 18014398509481984) % mb != 0).toNat = st := ⟨_, rfl⟩
  have hst1 : st ≤ 1 := by rw [← hst]; exact Bool.toNat_le _
  have x1 : 9007199254740992 ≤ x := by
    rw [← hx]; refine (Nat.le_div_iff_mul_le (by omega)).2 ?_
    omega
  have x2 : x ≤ 36028797018963968 := by
    have : x < 36028797018963969 := by
      rw [← hx]; refine (Nat.div_lt_iff_lt_mul (by omega)).2 ?_
      omega
    omega
  have x3 : x * mb ≤ ma * 18014398509481984 := by rw [← hx]; exact Nat.div_mul_le_self _ _
  obtain ⟨g, hg⟩ : ∃ g, 2 * x + st = g := ⟨_, rfl⟩
  have hq : (double.read (double.nearest false S 0)).quotient (double.fractionBits + 2) (double.read (double.nearest false T 0)) = some (.number false g (pa - pb - 55)) := by
    rw [a1, b1]
    simp only [Datum.quotient]
    rw [if_neg (by omega), hma, hmb]
    have e0 : double.fractionBits + 2 + 52 - 52 = 54 := rfl
    rw [e0, Nat.shiftLeft_eq, show (2 : Nat) ^ 54 = 18014398509481984 by rfl, hx, hst, hg]
    show some (Datum.number false g (pa - pb - ((54 : Nat) : Int) - 1)) = _
    congr 2 <;> omega
  have hgl : 54 ≤ g.log2 ∧ g.log2 ≤ 57 := by
    have h1 := (Nat.le_log2 (by omega : g ≠ 0) (k := 54)).2 (by omega)
    have h2 := (Nat.log2_lt (by omega : g ≠ 0) (k := 58)).2 (by omega)
    omega
  obtain ⟨mq, pq, q1, q2, q3, q4, q5, q6, _⟩ := read_nearest (mag := g) (place := pa - pb - 55) (by omega) (by omega) (by omega) (by omega)
  have hmq : mq.log2 = 52 := (Nat.log2_eq_iff (by omega)).2 ⟨by omega, by omega⟩
  -- the root
  obtain ⟨more, hmore⟩ : ∃ more : Nat, 56 + ((pq - 56) % 2).toNat = more := ⟨_, rfl⟩
  have hmb1 : more ≤ 57 ∧ 56 ≤ more := by omega
  have hev : (pq - more) % 2 = 0 := by omega
  obtain ⟨N, hN⟩ : ∃ N, mq <<< more = N := ⟨_, rfl⟩
  have hN2 : N = mq * 2 ^ more := by rw [← hN, Nat.shiftLeft_eq]
  have hNpos : 0 < N := by rw [hN2]; exact Nat.mul_pos (by omega) (Nat.two_pow_pos _)
  obtain ⟨w, hw⟩ : ∃ w, Datum.rootFrom N (N.log2 / 2 + 1) 0 = w := ⟨_, rfl⟩
  have hww : w * w ≤ N := by rw [← hw]; exact rootFrom_sq N _ 0 (by omega)
  obtain ⟨sr, hsr⟩ : ∃ sr, (w * w != N).toNat = sr := ⟨_, rfl⟩
  have hsr1 : sr ≤ 1 := by rw [← hsr]; exact Bool.toNat_le _
  obtain ⟨h, hh⟩ : ∃ h, 2 * w + sr = h := ⟨_, rfl⟩
  have hr : (double.read (double.nearest false g (pa - pb - 55))).root (double.fractionBits + 2) = some (.number false h ((pq - more) / 2 - 1)) := by
    rw [q1]
    simp only [Datum.root]
    rw [if_neg (by omega), hmq]
    have e0 : 2 * (double.fractionBits + 2) - 52 = 56 := rfl
    rw [e0]
    simp only [Bool.false_eq_true, if_false]
    rw [show 56 + ((pq - ((56 : Nat) : Int)) % 2).toNat = more by omega, hN, hw, hsr, hh]
  have hwb : w < 1152921504606846976 := by
    apply Decidable.byContradiction
    intro hc
    have h1 : 1152921504606846976 * 1152921504606846976 ≤ w * w := by
      have e : 1152921504606846976 ≤ w := by omega
      exact Nat.mul_le_mul e e
    have h2 : N < 9007199254740992 * 144115188075855872 := by
      rw [hN2]
      have : 2 ^ more ≤ 2 ^ 57 := Nat.pow_le_pow_right (by omega) hmb1.1
      exact Nat.lt_of_le_of_lt (Nat.mul_le_mul_left _ this) (by omega)
    omega
  have hh0 : 0 < h := by
    rcases Nat.eq_zero_or_pos w with e | e
    · have : sr = 1 := by
        rw [← hsr, e]
        have : ((0 * 0 != N) : Bool) = true := by simp; omega
        rw [this]; rfl
      omega
    · omega
  have hhl : h.log2 ≤ 61 := by
    have := (Nat.log2_lt (by omega : h ≠ 0) (k := 62)).2 (by omega)
    omega
  have hh5 : h * h ≤ 5 * N := by
    rcases Nat.eq_zero_or_pos w with e | e
    · have : h ≤ 1 := by omega
      have : h * h ≤ 1 * 1 := Nat.mul_le_mul this this
      omega
    · have h1 : h * h ≤ (2 * w + 1) * (2 * w + 1) := Nat.mul_le_mul (by omega) (by omega)
      have h2 : (2 * w + 1) * (2 * w + 1) = 4 * (w * w) + 4 * w + 1 := by
        rw [Nat.add_mul, Nat.mul_add, Nat.mul_add]
        have : 2 * w * (2 * w) = 4 * (w * w) := by rw [Nat.mul_mul_mul_comm]
        omega
      by_cases hbig : w < 16
      · have : N ≥ 4503599627370496 := by
          rw [hN2]
          have : 1 ≤ 2 ^ more := Nat.one_le_two_pow
          have := Nat.mul_le_mul_left mq this
          omega
        have : w * w ≤ 16 * 16 := Nat.mul_le_mul (by omega) (by omega)
        omega
      · have : 16 * w ≤ w * w := Nat.mul_le_mul_right _ (by omega)
        omega
  obtain ⟨ms, ps, r1, r2, r3, r4, r5, r6, _⟩ := read_nearest (mag := h) (place := (pq - more) / 2 - 1) hh0 (by omega) (by omega) (by omega)
  -- the integer
  obtain ⟨d, hd⟩ : ∃ d : Nat, ps = -(d : Int) := ⟨(-ps).toNat, by omega⟩
  obtain ⟨n, hn⟩ : ∃ n, Toward.cut .zero false (ms <<< ps.toNat) (-ps).toNat = n := ⟨_, rfl⟩
  have hn2 : n * 2 ^ d ≤ ms := by
    rw [← hn, show ps.toNat = 0 by omega, show (-ps).toNat = d by omega, Nat.shiftLeft_zero]
    simp only [Toward.cut, Nat.one_shiftLeft, Bool.toNat_false, Nat.add_zero]
    by_cases hc : d ≤ ms.log2 + 2
    · rw [Nat.min_eq_left hc]; exact Nat.div_mul_le_self _ _
    · rw [Nat.min_eq_right (by omega)]
      have : ms < 2 ^ (ms.log2 + 2) := Nat.lt_of_lt_of_le Nat.lt_log2_self (Nat.pow_le_pow_right (by omega) (by omega))
      rw [Nat.div_eq_of_lt this]
      omega
  refine ⟨double.write (.number false g (pa - pb - 55)), double.write (.number false h ((pq - more) / 2 - 1)), n, ?_, ?_, ?_, ?_⟩
  · unfold Format.div
    rw [hq]
    rfl
  · unfold Format.sqrt
    simp only [Format.write]
    rw [hr]
    rfl
  · simp only [FloatKind.decode, hf, Format.write]
    rw [r1]
    simp only [Datum.toInt, Datum.integral, hn, signed]
    simp
  -- all together
  obtain ⟨E, hE⟩ := ex_num 4000
  obtain ⟨c, hc, hcpos⟩ := ex_pow E
  have sc0 : ∀ m, sc m 0 = m * 2 ^ E := fun m => by
    unfold sc
    congr 2
    omega
  have i1 : 8 * sc ma pa ≤ 9 * (S * c) := by rw [← hc, ← sc0]; exact a6
  have i2 : sc mb pb = T * c := by rw [← hc, ← sc0]; exact b6
  have i3 : 8 * (sc g (pa - pb - 55) * T) ≤ 9 * sc ma pa := by
    have hk : 8 * (g * mb) ≤ 18 * (ma * 18014398509481984) := by
      have e : g * mb ≤ (2 * x + 1) * mb := Nat.mul_le_mul_right _ (by omega)
      have e2 : (2 * x + 1) * mb = 2 * (x * mb) + mb := by rw [Nat.add_mul, Nat.mul_assoc, Nat.one_mul]
      have e3 : 9007199254740992 * mb ≤ x * mb := Nat.mul_le_mul_right _ x1
      omega
    have e1 : sc g (pa - pb - 55) * sc mb pb = g * mb * 2 ^ (pa + 7945).toNat := by
      unfold sc
      rw [Nat.mul_mul_mul_comm, ← Nat.pow_add]
      congr 2
      omega
    have e2 : sc ma pa * c = ma * 2 ^ 55 * 2 ^ (pa + 7945).toNat := by
      unfold sc
      rw [← hc, Nat.mul_assoc, Nat.mul_assoc, ← Nat.pow_add, ← Nat.pow_add]
      congr 2
      omega
    have e3 : 8 * (sc g (pa - pb - 55) * sc mb pb) ≤ 9 * (sc ma pa * c) := by
      rw [e1, e2, ← Nat.mul_assoc, ← Nat.mul_assoc 9]
      refine Nat.mul_le_mul_right _ ?_
      have : (2 : Nat) ^ 55 = 36028797018963968 := rfl
      omega
    rw [i2, ← Nat.mul_assoc (sc g _), ← Nat.mul_assoc, ← Nat.mul_assoc 9] at e3
    exact Nat.le_of_mul_le_mul_right e3 hcpos
  have i5 : 4 * (sc h ((pq - more) / 2 - 1) * sc h ((pq - more) / 2 - 1)) ≤ 5 * (sc mq pq * c) := by
    have e1 : sc h ((pq - more) / 2 - 1) * sc h ((pq - more) / 2 - 1) = h * h * 2 ^ (pq - more - 2 + 8000).toNat := by
      unfold sc
      rw [Nat.mul_mul_mul_comm, ← Nat.pow_add]
      congr 2
      omega
    have e2 : sc mq pq * c = N * 2 ^ (pq - more + 8000).toNat := by
      unfold sc
      rw [← hc, hN2, Nat.mul_assoc, Nat.mul_assoc, ← Nat.pow_add, ← Nat.pow_add]
      congr 2
      omega
    have e3 : (2 : Nat) ^ (pq - more + 8000).toNat = 4 * 2 ^ (pq - more - 2 + 8000).toNat := by
      rw [show (pq - more + 8000).toNat = 2 + (pq - more - 2 + 8000).toNat by omega, Nat.pow_add]
    rw [e1, e2, e3]
    have := Nat.mul_le_mul_right (4 * 2 ^ (pq - more - 2 + 8000).toNat) hh5
    calc 4 * (h * h * 2 ^ (pq - more - 2 + 8000).toNat) = h * h * (4 * 2 ^ (pq - more - 2 + 8000).toNat) := by ac_rfl
      _ ≤ 5 * N * (4 * 2 ^ (pq - more - 2 + 8000).toNat) := this
      _ = 5 * (N * (4 * 2 ^ (pq - more - 2 + 8000).toNat)) := by rw [Nat.mul_assoc]
  have i7 : n * c ≤ sc ms ps := by
    have : n * 2 ^ d * 2 ^ (ps + 4000).toNat ≤ sc ms ps := Nat.mul_le_mul_right _ hn2
    rw [Nat.mul_assoc, ← Nat.pow_add, show d + (ps + 4000).toNat = E by omega, hc] at this
    exact this
  generalize sc ms ps = vs at *
  generalize sc h ((pq - more) / 2 - 1) = vr at *
  generalize sc mq pq = vq at *
  generalize sc g (pa - pb - 55) = vg at *
  generalize sc ma pa = va at *
  have j1 : 64 * ((n * c) * (n * c)) ≤ 81 * (vr * vr) := by
    have : 8 * (n * c) ≤ 9 * vr := by omega
    have := Nat.mul_le_mul this this
    calc 64 * ((n * c) * (n * c)) = 8 * (n * c) * (8 * (n * c)) := by ac_rfl
      _ ≤ 9 * vr * (9 * vr) := this
      _ = 81 * (vr * vr) := by ac_rfl
  have j2 : 256 * (n * n * c) ≤ 405 * vq := by
    have e : 256 * ((n * c) * (n * c)) ≤ 405 * (vq * c) := by omega
    have : 256 * (n * n * c) * c ≤ 405 * vq * c := by
      calc 256 * (n * n * c) * c = 256 * ((n * c) * (n * c)) := by ac_rfl
        _ ≤ 405 * (vq * c) := e
        _ = 405 * vq * c := by rw [Nat.mul_assoc]
    exact Nat.le_of_mul_le_mul_right this hcpos
  have j3 : 2048 * (n * n * c) ≤ 3645 * vg := by omega
  have j4 : 16384 * (n * n * T * c) ≤ 32805 * va := by
    have := Nat.mul_le_mul_right (8 * T) j3
    have e1 : 2048 * (n * n * c) * (8 * T) = 16384 * (n * n * T * c) := by ac_rfl
    have e2 : 3645 * vg * (8 * T) = 3645 * (8 * (vg * T)) := by ac_rfl
    rw [e1, e2] at this
    omega
  have j5 : 131072 * (n * n * T) * c ≤ 295245 * S * c := by
    rw [Nat.mul_assoc, Nat.mul_assoc 295245]
    omega
  have := Nat.le_of_mul_le_mul_right j5 hcpos
  omega
end Go.Fly
end
section
/- What sources send: emissions, sectors, bands; levels. -/
namespace Go.Fly
open Go

theorem mul_le_of {a b A B : Int} (h0 : 0 ≤ a) (h1 : a ≤ A) (h2 : 0 ≤ b) (h3 : b ≤ B) : 0 ≤ a * b ∧ a * b ≤ A * B :=
  ⟨Int.mul_nonneg h0 h2, Int.mul_le_mul h1 h3 h2 (by omega)⟩
theorem mul_abs_le {a b A B : Int} (h0 : -A ≤ a) (h1 : a ≤ A) (h2 : -B ≤ b) (h3 : b ≤ B) : -(A * B) ≤ a * b ∧ a * b ≤ A * B := by
  have hA : 0 ≤ A := by omega
  have hB : 0 ≤ B := by omega
  rcases Int.le_total 0 a with ha | ha <;> rcases Int.le_total 0 b with hb | hb
  · have := mul_le_of ha h1 hb h3
    have := Int.mul_nonneg hA hB
    omega
  · have := mul_le_of ha h1 (show 0 ≤ -b by omega) (show -b ≤ B by omega)
    rw [Int.mul_neg] at this
    omega
  · have := mul_le_of (show 0 ≤ -a by omega) (show -a ≤ A by omega) hb h3
    rw [Int.neg_mul] at this
    omega
  · have := mul_le_of (show 0 ≤ -a by omega) (show -a ≤ A by omega) (show 0 ≤ -b by omega) (show -b ≤ B by omega)
    rw [Int.neg_mul_neg] at this
    omega

def idxF (p : Nat → Bool) : Nat → Nat → Int
  | i, 0 => -1
  | i, k + 1 => if p i = true then i else idxF p (i + 1) k
theorem idxF_spec {p : Nat → Bool} : ∀ {k i : Nat}, idxF p i k = -1 ∨ ∃ j : Nat, i ≤ j ∧ j < i + k ∧ idxF p i k = j ∧ p j = true ∧ ∀ j', i ≤ j' → j' < j → p j' = false
  | 0, i => .inl rfl
  | k + 1, i => by
    unfold idxF
    split
    · rename_i h; exact .inr ⟨i, by omega, by omega, rfl, h, fun j' h1 h2 => by omega⟩
    · rename_i h
      rcases idxF_spec (p := p) (k := k) (i := i + 1) with q | ⟨j, q1, q2, q3, q4, q5⟩
      · exact .inl q
      · refine .inr ⟨j, by omega, by omega, q3, q4, fun j' h1 h2 => ?_⟩
        by_cases e : j' = i
        · subst e; simpa using h
        · exact q5 j' (by omega) h2

end Go.Fly
end
section
/- Contracts of the sources and of levels. -/
namespace Go.Fly
open Go

end Go.Fly
end
section
/- What lets sound pass: steps, transmittances, what arrives, what was emitted. -/
namespace Go.Fly
open Go

/-- The greatest number whose square is at most another one. -/
def rtN (x : Nat) : Nat → Nat
  | 0 => 0
  | n + 1 => if (n + 1) * (n + 1) ≤ x then n + 1 else rtN x n
theorem rtN_sq (x : Nat) : ∀ n, rtN x n * rtN x n ≤ x
  | 0 => by simp [rtN]
  | n + 1 => by
    unfold rtN
    split
    · assumption
    · exact rtN_sq x n
theorem rtN_max (x : Nat) : ∀ (n k : Nat), k ≤ n → k * k ≤ x → k ≤ rtN x n
  | 0, k, h, _ => by simpa [rtN] using h
  | n + 1, k, h, hk => by
    unfold rtN
    split
    · exact h
    · rename_i hn
      refine rtN_max x n k ?_ hk
      rcases Nat.lt_or_ge n k with e | e
      · obtain rfl : k = n + 1 := by omega
        exact absurd hk hn
      · exact e
theorem rtN_up (x n : Nat) (h : x ≤ n) : x < (rtN x n + 1) * (rtN x n + 1) := by
  rcases Nat.lt_or_ge x ((rtN x n + 1) * (rtN x n + 1)) with e | e
  · exact e
  · have h1 : rtN x n + 1 ≤ x := Nat.le_trans (Nat.le_mul_of_pos_left _ (by omega)) e
    have := rtN_max x n (rtN x n + 1) (by omega) e
    omega
theorem rtN_eq {x n k : Nat} (h : x ≤ n) (h1 : k * k ≤ x) (h2 : x < (k + 1) * (k + 1)) : rtN x n = k := by
  have e1 : k ≤ x := by
    rcases Nat.eq_zero_or_pos k with e | e
    · omega
    · exact Nat.le_trans (Nat.le_mul_of_pos_left _ e) h1
  have a := rtN_max x n k (by omega) h1
  have b := rtN_sq x n
  rcases Nat.lt_or_ge k (rtN x n) with e | e
  · have : (k + 1) * (k + 1) ≤ rtN x n * rtN x n := Nat.mul_le_mul e e
    omega
  · omega

/-- The root of a quotient, rounded down, and up. -/
def rootE (square times : Int) : Int := rtN (square.toNat / times.toNat) (square.toNat / times.toNat)
def rootUp (square times : Int) : Int := if rootE square times * rootE square times * times < square then rootE square times + 1 else rootE square times

theorem rootE_nonneg (s t : Int) : 0 ≤ rootE s t := Int.natCast_nonneg _
theorem rootE_sq {s t : Int} (hs : 0 ≤ s) (ht : 0 < t) : rootE s t * rootE s t * t ≤ s := by
  obtain ⟨S, rfl⟩ := Int.eq_ofNat_of_zero_le hs
  obtain ⟨T, rfl⟩ := Int.eq_ofNat_of_zero_le (Int.le_of_lt ht)
  have hT : 0 < T := by omega
  unfold rootE
  simp only [Int.toNat_natCast]
  have h := rtN_sq (S / T) (S / T)
  have := (Nat.le_div_iff_mul_le hT).1 h
  exact_mod_cast this
theorem rootE_up {s t : Int} (hs : 0 ≤ s) (ht : 0 < t) : s < (rootE s t + 1) * (rootE s t + 1) * t := by
  obtain ⟨S, rfl⟩ := Int.eq_ofNat_of_zero_le hs
  obtain ⟨T, rfl⟩ := Int.eq_ofNat_of_zero_le (Int.le_of_lt ht)
  have hT : 0 < T := by omega
  unfold rootE
  simp only [Int.toNat_natCast]
  have h := rtN_up (S / T) (S / T) (Nat.le_refl _)
  have := (Nat.div_lt_iff_lt_mul hT).1 h
  exact_mod_cast this
/-- A number that fits is the root. -/
theorem rootE_eq {s t : Int} {n : Nat} (hs : 0 ≤ s) (ht : 0 < t) (h1 : (n : Int) * n * t ≤ s) (h2 : s < ((n : Int) + 1) * (n + 1) * t) : rootE s t = n := by
  obtain ⟨S, rfl⟩ := Int.eq_ofNat_of_zero_le hs
  obtain ⟨T, rfl⟩ := Int.eq_ofNat_of_zero_le (Int.le_of_lt ht)
  have hT : 0 < T := by omega
  unfold rootE
  simp only [Int.toNat_natCast]
  have e1 : n * n ≤ S / T := (Nat.le_div_iff_mul_le hT).2 (by exact_mod_cast h1)
  have e2 : S / T < (n + 1) * (n + 1) := (Nat.div_lt_iff_lt_mul hT).2 (by exact_mod_cast h2)
  rw [rtN_eq (Nat.le_refl _) e1 e2]

/-- The bottom of a layer, and its top. -/
def botE (get : Nat → List V) : Nat → Int
  | 0 => 0
  | i + 1 => botE get i + cell get i 0
def topE (n : Nat) (get : Nat → List V) (i : Nat) : Int := if (i : Int) = (n : Int) - 1 then 1099511627776 else botE get i + cell get i 0
def overE (bot top lo hi : Int) : Int := max 0 (min hi top - max lo bot)
/-- The layer at a height. -/
def atE (n : Nat) (get : Nat → List V) (h : Int) : Int := idxF (fun i => decide (h < topE n get i)) 0 n
def partE (n : Nat) (get : Nat → List V) (z0 z1 flat : Int) (i : Nat) : Int :=
  if z1 - z0 = 0 then (if (i : Int) = atE n get flat then 1 else 0) else overE (botE get i) (topE n get i) z0 z1
def byE (z0 z1 : Int) : Int := if z1 - z0 = 0 then 1 else z1 - z0
def stepLo (n : Nat) (get : Nat → List V) (sq z0 z1 flat : Int) (i : Nat) : Int := rootE (sq * partE n get z0 z1 flat i * partE n get z0 z1 flat i) (byE z0 z1 * byE z0 z1 * 100 * 100)
def stepHi (n : Nat) (get : Nat → List V) (sq z0 z1 flat : Int) (i : Nat) : Int := rootUp (sq * partE n get z0 z1 flat i * partE n get z0 z1 flat i) (byE z0 z1 * byE z0 z1 * 100 * 100)

/-- What is left after some steps, rounded down, and up. -/
def downE (p : Int) : Nat → Int → Int
  | 0, x => x
  | k + 1, x => downE p k (x * p / 1000)
def upE (p : Int) : Nat → Int → Int
  | 0, x => x
  | k + 1, x => upE p k ((x * p + 999) / 1000)
/-- Through the first layers. -/
def passLo (get : Nat → List V) (st : Nat → Int) (b : Nat) : Nat → Int
  | 0 => 1000
  | i + 1 => downE (cell (inG get i 4) b 0) (st i).toNat (passLo get st b i)
def passHi (get : Nat → List V) (st : Nat → Int) (b : Nat) : Nat → Int
  | 0 => 1000
  | i + 1 => upE (cell (inG get i 4) b 1) (st i).toNat (passHi get st b i)

theorem down_bd {p : Int} (h0 : 0 ≤ p) (h1 : p ≤ 1000) : ∀ {k : Nat} {x : Int}, 0 ≤ x → 0 ≤ downE p k x ∧ downE p k x ≤ x
  | 0, x, h => ⟨h, Int.le_refl _⟩
  | k + 1, x, h => by
    have e1 := Int.mul_nonneg h h0
    have e2 := Int.mul_le_mul_of_nonneg_left h1 h
    have := down_bd h0 h1 (k := k) (x := x * p / 1000) (by omega)
    unfold downE
    omega
theorem up_bd {p : Int} (h0 : 0 ≤ p) (h1 : p ≤ 1000) : ∀ {k : Nat} {x : Int}, 0 ≤ x → 0 ≤ upE p k x ∧ upE p k x ≤ x
  | 0, x, h => ⟨h, Int.le_refl _⟩
  | k + 1, x, h => by
    have e1 := Int.mul_nonneg h h0
    have e2 := Int.mul_le_mul_of_nonneg_left h1 h
    have := up_bd h0 h1 (k := k) (x := (x * p + 999) / 1000) (by omega)
    unfold upE
    omega
theorem down_mono {p q : Int} (h0 : 0 ≤ p) (h1 : p ≤ q) : ∀ {k : Nat} {x y : Int}, 0 ≤ x → x ≤ y → downE p k x ≤ downE q k y
  | 0, x, y, _, h => h
  | k + 1, x, y, hx, h => by
    have e1 := Int.mul_le_mul h h1 h0 (by omega : 0 ≤ y)
    have e0 := Int.mul_nonneg hx h0
    unfold downE
    exact down_mono h0 h1 (by omega) (by omega)
theorem up_mono {p q : Int} (h0 : 0 ≤ p) (h1 : p ≤ q) : ∀ {k : Nat} {x y : Int}, 0 ≤ x → x ≤ y → upE p k x ≤ upE q k y
  | 0, x, y, _, h => h
  | k + 1, x, y, hx, h => by
    have e1 := Int.mul_le_mul h h1 h0 (by omega : 0 ≤ y)
    have e0 := Int.mul_nonneg hx h0
    unfold upE
    exact up_mono h0 h1 (by omega) (by omega)
theorem down_up {p : Int} (h0 : 0 ≤ p) : ∀ {k : Nat} {x : Int}, 0 ≤ x → downE p k x ≤ upE p k x
  | 0, x, _ => Int.le_refl _
  | k + 1, x, hx => by
    have e0 := Int.mul_nonneg hx h0
    unfold downE upE
    have a := down_mono h0 (Int.le_refl p) (k := k) (x := x * p / 1000) (y := (x * p + 999) / 1000) (by omega) (by omega)
    have b := down_up h0 (k := k) (x := (x * p + 999) / 1000) (by omega)
    omega
/-- More steps let less pass. -/
theorem down_le {p : Int} (h0 : 0 ≤ p) (h1 : p ≤ 1000) : ∀ {k j : Nat} {x : Int}, 0 ≤ x → k ≤ j → downE p j x ≤ downE p k x
  | 0, j, x, hx, _ => (down_bd h0 h1 hx).2
  | k + 1, 0, x, _, h => by omega
  | k + 1, j + 1, x, hx, h => by
    have e0 := Int.mul_nonneg hx h0
    unfold downE
    exact down_le h0 h1 (by omega) (by omega)
theorem up_le {p : Int} (h0 : 0 ≤ p) (h1 : p ≤ 1000) : ∀ {k j : Nat} {x : Int}, 0 ≤ x → k ≤ j → upE p j x ≤ upE p k x
  | 0, j, x, hx, _ => (up_bd h0 h1 hx).2
  | k + 1, 0, x, _, h => by omega
  | k + 1, j + 1, x, hx, h => by
    have e0 := Int.mul_nonneg hx h0
    unfold upE
    exact up_le h0 h1 (by omega) (by omega)

theorem down_succ {p : Int} : ∀ {k : Nat} {x : Int}, downE p (k + 1) x = downE p k x * p / 1000
  | 0, x => rfl
  | k + 1, x => by
    have := down_succ (p := p) (k := k) (x := x * p / 1000)
    show downE p (k + 1) (x * p / 1000) = downE p k (x * p / 1000) * p / 1000
    exact this
theorem up_succ {p : Int} : ∀ {k : Nat} {x : Int}, upE p (k + 1) x = (upE p k x * p + 999) / 1000
  | 0, x => rfl
  | k + 1, x => by
    have := up_succ (p := p) (k := k) (x := (x * p + 999) / 1000)
    show upE p (k + 1) ((x * p + 999) / 1000) = (upE p k ((x * p + 999) / 1000) * p + 999) / 1000
    exact this
theorem pass_bd {get : Nat → List V} {hl hh : Nat → Int} {b : Nat} : ∀ {n : Nat}, (∀ i, i < n → 0 ≤ cell (inG get i 4) b 0 ∧ cell (inG get i 4) b 0 ≤ 1000 ∧ 0 ≤ cell (inG get i 4) b 1 ∧ cell (inG get i 4) b 1 ≤ 1000) →
    (0 ≤ passLo get hl b n ∧ passLo get hl b n ≤ 1000) ∧ 0 ≤ passHi get hh b n ∧ passHi get hh b n ≤ 1000
  | 0, _ => by simp [passLo, passHi]
  | n + 1, h => by
    have ih := pass_bd (hl := hl) (hh := hh) (n := n) fun i hi => h i (by omega)
    have hn := h n (by omega)
    have a := down_bd hn.1 hn.2.1 (k := (hl n).toNat) ih.1.1
    have c := up_bd hn.2.2.1 hn.2.2.2 (k := (hh n).toNat) ih.2.1
    simp only [passLo, passHi]
    omega

def arrLo (e pl : Int) : Int := e * pl / 1000
def arrHi (e ph : Int) : Int := (e * ph + 999) / 1000
end Go.Fly
end
section
/- Contracts of the air: paths, steps, transmittances. -/
namespace Go.Fly
open Go

/-- A valid air. -/
structure AirOk (n : Nat) (get : Nat → List V) : Prop where
  cnt : 0 < n ∧ n ≤ 8
  th : ∀ i, i < n → 1 ≤ cell get i 0 ∧ cell get i 0 ≤ 2000
  bands : 0 < inN get 0 4 ∧ inN get 0 4 ≤ 8
  same : ∀ i, i < n → inN get i 4 = inN get 0 4
  pass : ∀ i, i < n → ∀ b, b < inN get 0 4 → 0 ≤ cell (inG get i 4) b 0 ∧ cell (inG get i 4) b 0 ≤ cell (inG get i 4) b 1 ∧ cell (inG get i 4) b 1 ≤ 1000

theorem ivE_zero {lo hi most : Int} : ivE lo hi most = 0 ↔ 0 ≤ lo ∧ lo ≤ hi ∧ hi ≤ most := by
  unfold ivE
  rw [firstL_zero]
  simp only [List.mem_cons, List.not_mem_nil, or_false, forall_eq_or_imp, forall_eq, rng_zero, err_zero (show (11 : Int) ≠ 0 by decide), decide_eq_false_iff_not]
  omega
theorem layerE_zero {th sp wx wy : Int} {m : Nat} {g : Nat → List V} {bands : Int} (h : layerE th sp wx wy m g bands = 0) :
    (1 ≤ th ∧ th ≤ 2000) ∧ 0 < m ∧ m ≤ 8 ∧ (m : Int) = bands ∧ ∀ b, b < m → 0 ≤ cell g b 0 ∧ cell g b 0 ≤ cell g b 1 ∧ cell g b 1 ≤ 1000 := by
  unfold layerE at h
  by_cases h1 : layerE1 th sp wx wy = 0
  · simp only [h1, ne_eq, not_true_eq_false, if_false] at h
    by_cases h2 : layerE2 m bands = 0
    · simp only [h2, ne_eq, not_true_eq_false, if_false] at h
      obtain ⟨a, b, c⟩ := layerE2_zero.1 h2
      refine ⟨?_, a, b, c, fun k hk => ?_⟩
      · unfold layerE1 at h1
        rw [firstL_zero] at h1
        have := h1 (rng th 1 2000) (by simp)
        exact rng_zero.1 this
      · unfold ivsE at h
        exact ivE_zero.1 (firstI_zero.1 h k (Nat.zero_le _) (by omega))
    · simp only [ne_eq, h2, not_false_eq_true, if_true] at h
  · simp only [ne_eq, h1, not_false_eq_true, if_true] at h
theorem airE_ok {n : Nat} {get : Nat → List V} (h : airE n get = 0) : AirOk n get := by
  unfold airE at h
  by_cases h0 : airE0 n = 0
  · simp only [h0, ne_eq, not_true_eq_false, if_false] at h
    have hn := airE0_zero.1 h0
    have hl := fun i (hi : i < n) => layerE_zero (firstI_zero.1 h i (Nat.zero_le _) (by omega))
    obtain ⟨a, b, c, d, e⟩ := hl 0 hn.1
    refine ⟨hn, fun i hi => (hl i hi).1, ⟨b, c⟩, fun i hi => by have := (hl i hi).2.2.2.1; omega, fun i hi b hb => ?_⟩
    have := (hl i hi).2.2.2.1
    exact (hl i hi).2.2.2.2 b (by omega)
  · simp only [ne_eq, h0, not_false_eq_true, if_true] at h

theorem bot_bd {n : Nat} {get : Nat → List V} (h : AirOk n get) : ∀ {i : Nat}, i ≤ n → (i : Int) ≤ botE get i ∧ botE get i ≤ 2000 * i
  | 0, _ => by simp [botE]
  | i + 1, hi => by
    have a := bot_bd h (i := i) (by omega)
    have b := h.th i (by omega)
    simp only [botE]
    omega
theorem top_bd {n : Nat} {get : Nat → List V} (h : AirOk n get) {i : Nat} (hi : i < n) : botE get i < topE n get i ∧ topE n get i ≤ 1099511627776 := by
  have a := bot_bd h (i := i) (by omega)
  have b := h.th i hi
  have c := h.cnt
  unfold topE
  split <;> omega
theorem atE_ok {n : Nat} {get : Nat → List V} (hok : AirOk n get) {h : Int} (hh : h ≤ 20000) : ∃ j : Nat, j < n ∧ atE n get h = j := by
  rcases idxF_spec (p := fun i => decide (h < topE n get i)) (k := n) (i := 0) with e | ⟨j, _, q2, q3, _, _⟩
  · exfalso
    have hc := hok.cnt
    have hno : ∀ {k i : Nat} {p : Nat → Bool}, idxF p i k = -1 → ∀ j, i ≤ j → j < i + k → p j = false := by
      intro k
      induction k with
      | zero => intro i p _ j h1 h2; omega
      | succ k ih =>
        intro i p hp j h1 h2
        unfold idxF at hp
        split at hp
        · omega
        · rename_i hb
          by_cases e : j = i
          · subst e; simpa using hb
          · exact ih hp j (by omega) (by omega)
    have := hno e (n - 1) (by omega) (by omega)
    simp only [decide_eq_false_iff_not] at this
    have ht : topE n get (n - 1) = 1099511627776 := by unfold topE; rw [if_pos (by omega)]
    omega
  · exact ⟨j, by omega, q3⟩

/-- A valid path. -/
def PathOk (a b c d e f : Int) : Prop := ((-10000 ≤ a ∧ a ≤ 10000) ∧ (-10000 ≤ b ∧ b ≤ 10000) ∧ 0 ≤ c ∧ c ≤ 10000) ∧ ((-10000 ≤ d ∧ d ≤ 10000) ∧ (-10000 ≤ e ∧ e ≤ 10000) ∧ 0 ≤ f ∧ f ≤ 10000) ∧ ¬ (a = d ∧ b = e ∧ c = f)
theorem pathE_zero {a b c d e f : Int} : pathE a b c d e f = 0 ↔ PathOk a b c d e f := by
  unfold pathE pointE PathOk
  rw [firstL_zero]
  simp only [List.mem_cons, List.not_mem_nil, or_false, forall_eq_or_imp, forall_eq, firstL_zero, rng_zero, err_zero (show (6 : Int) ≠ 0 by decide), Bool.and_eq_false_iff, decide_eq_false_iff_not]
  constructor
  · rintro ⟨⟨h1, h2, h3⟩, ⟨h4, h5, h6⟩, h7⟩
    refine ⟨⟨h1, h2, h3⟩, ⟨h4, h5, h6⟩, fun q => ?_⟩
    rcases h7 with h | h | h
    · exact h q.1
    · exact h q.2.1
    · exact h q.2.2
  · rintro ⟨⟨h1, h2, h3⟩, ⟨h4, h5, h6⟩, h7⟩
    refine ⟨⟨h1, h2, h3⟩, ⟨h4, h5, h6⟩, ?_⟩
    by_cases q1 : a = d
    · by_cases q2 : b = e
      · by_cases q3 : c = f
        · exact absurd ⟨q1, q2, q3⟩ h7
        · exact .inr (.inr q3)
      · exact .inr (.inl q2)
    · exact .inl q1
def sqE (a b c d e f : Int) : Int := (d - a) * (d - a) + (e - b) * (e - b) + (f - c) * (f - c)
theorem sq_nn (x : Int) : 0 ≤ x * x := by
  rcases Int.le_total 0 x with h | h
  · exact Int.mul_nonneg h h
  · exact Int.mul_nonneg_of_nonpos_of_nonpos h h
theorem sqE_bd {a b c d e f : Int} (h : PathOk a b c d e f) : 0 ≤ sqE a b c d e f ∧ sqE a b c d e f ≤ 900000000 := by
  obtain ⟨⟨h1, h2, h3⟩, ⟨h4, h5, h6⟩, -⟩ := h
  have e1 := mul_abs_le (a := d - a) (b := d - a) (A := 20000) (B := 20000) (by omega) (by omega) (by omega) (by omega)
  have e2 := mul_abs_le (a := e - b) (b := e - b) (A := 20000) (B := 20000) (by omega) (by omega) (by omega) (by omega)
  have e3 := mul_abs_le (a := f - c) (b := f - c) (A := 10000) (B := 10000) (by omega) (by omega) (by omega) (by omega)
  have s1 := sq_nn (d - a)
  have s2 := sq_nn (e - b)
  have s3 := sq_nn (f - c)
  unfold sqE
  omega

def sqrtC : Contract := fun _ args =>
  match args with
  | [.flt .f64 x] => ⟨(FloatKind.f64.format.sqrt x).isSome = true, .flt .f64 ((FloatKind.f64.format.sqrt x).getD 0), none⟩
  | _ => ⟨False, .top, none⟩
def divDnC : Contract := fun _ args =>
  match args with
  | [.int .i64 a, .int .i64 b] => ⟨0 ≤ a ∧ a ≤ 1000000000000000000 ∧ 0 < b ∧ b ≤ 1000000000000, .int .i64 (a / b), none⟩
  | _ => ⟨False, .top, none⟩
def divUpC : Contract := fun _ args =>
  match args with
  | [.int .i64 a, .int .i64 b] => ⟨0 ≤ a ∧ a ≤ 1000000000000000000 ∧ 0 < b ∧ b ≤ 1000000000000, .int .i64 ((a + b - 1) / b), none⟩
  | _ => ⟨False, .top, none⟩
def roundsC (g1 g2 : FuncId) : Contract := fun _ args =>
  match args with
  | [] => ⟨True, .tup [.agg [.fn (.func g1) [] []], .agg [.fn (.func g2) [] []]], none⟩
  | _ => ⟨False, .top, none⟩
def directC : Contract := fun _ args =>
  match args with
  | [.agg [.int .i64 a, .int .i64 b, .int .i64 c, .int .i64 d, .int .i64 e, .int .i64 f]] => ⟨PathOk a b c d e f, .agg [.int .i64 (d - a), .int .i64 (e - b)], none⟩
  | _ => ⟨False, .top, none⟩
def straightC : Contract := fun _ args =>
  match args with
  | [.agg [.int .i64 a, .int .i64 b, .int .i64 c, .int .i64 d, .int .i64 e, .int .i64 f]] => ⟨PathOk a b c d e f, .agg [.int .i64 (sqE a b c d e f), .int .i64 (min c f), .int .i64 (max c f), .int .i64 0, .int .i64 0, .int .i64 c], none⟩
  | _ => ⟨False, .top, none⟩
def overC : Contract := fun _ args =>
  match args with
  | [.agg [.int .i64 th, .int .i64 sp, .int .i64 wx, .int .i64 wy, .sl m sz g, .int .i64 bot, .int .i64 top], .int .i64 lo, .int .i64 hi] =>
    ⟨(-1000000 ≤ lo ∧ lo ≤ 1000000) ∧ (-1000000 ≤ hi ∧ hi ≤ 1000000) ∧ (0 ≤ bot ∧ bot ≤ 1000000) ∧ (0 ≤ top ∧ top ≤ 1099511627776) ∧ Pu (.sl m sz g), .int .i64 (overE bot top lo hi), none⟩
  | _ => ⟨False, .top, none⟩
def rootC : Contract := fun _ args =>
  match args with
  | [.int .i64 s, .int .i64 t] => ⟨0 ≤ s ∧ s ≤ 500000000000000000 ∧ 0 < t ∧ t ≤ 4000000000000, .int .i64 (rootE s t), none⟩
  | _ => ⟨False, .top, none⟩
def rootsC : Contract := fun _ args =>
  match args with
  | [.int .i64 s, .int .i64 t] => ⟨0 ≤ s ∧ s ≤ 500000000000000000 ∧ 0 < t ∧ t ≤ 4000000000000, .agg [.int .i64 (rootE s t), .int .i64 (rootUp s t)], none⟩
  | _ => ⟨False, .top, none⟩
def placedC (g1 : FuncId) : Contract := fun _ args =>
  match args with
  | [.sl n sz get] => ⟨sz = 5 ∧ IsAir n get, .fn (.func g1) [] [.cptr [.sl n 5 get]], none⟩
  | _ => ⟨False, .top, none⟩
def atC : Contract := fun _ args =>
  match args with
  | [.sl n sz get, .int .i64 h] => ⟨sz = 5 ∧ IsAir n get ∧ AirOk n get ∧ 0 ≤ h ∧ h ≤ 10000,
      .tup [.int .i64 (atE n get h), .agg (get (atE n get h).toNat ++ [.int .i64 (botE get (atE n get h).toNat), .int .i64 (topE n get (atE n get h).toNat)])], none⟩
  | _ => ⟨False, .top, none⟩
def stepsC : Contract := fun _ args =>
  match args with
  | [.agg [.int .i64 sq, .int .i64 z0, .int .i64 z1, .int .i64 y0, .int .i64 y1, .int .i64 flat], .sl n sz get] =>
    ⟨sz = 5 ∧ IsAir n get ∧ AirOk n get ∧ (0 ≤ sq ∧ sq ≤ 900000000) ∧ 0 ≤ z0 ∧ z0 ≤ z1 ∧ z1 ≤ 10000 ∧ y0 = 0 ∧ y1 = 0 ∧ 0 ≤ flat ∧ flat ≤ 10000,
      .sl n 2 (fun i => [.int .i64 (stepLo n get sq z0 z1 flat i), .int .i64 (stepHi n get sq z0 z1 flat i)]), none⟩
  | _ => ⟨False, .top, none⟩
def passedC : Contract := fun _ args =>
  match args with
  | [.sl n sz get, .sl n' sz' st] => ⟨sz = 5 ∧ IsAir n get ∧ AirOk n get ∧ sz' = 2 ∧ n' = n ∧ IsIv n st ∧ (∀ i, i < n → 0 ≤ cell st i 0 ∧ cell st i 0 ≤ 1000000 ∧ 0 ≤ cell st i 1 ∧ cell st i 1 ≤ 1000000),
      .sl (inN get 0 4) 2 (fun b => [.int .i64 (passLo get (fun i => cell st i 1) b n), .int .i64 (passHi get (fun i => cell st i 0) b n)]), none⟩
  | _ => ⟨False, .top, none⟩
def arrivedC : Contract := fun _ args =>
  match args with
  | [.sl n sz p, .sl n' sz' en, .agg [.int .i64 num, .int .i64 den]] => ⟨sz = 2 ∧ IsIv n p ∧ sz' = 1 ∧ n' = n ∧ IsInts n en ∧ n ≤ 1000000 ∧ num = 1 ∧ den = 1 ∧ (∀ i, i < n → 0 ≤ cell p i 0 ∧ cell p i 0 ≤ 1000 ∧ 0 ≤ cell p i 1 ∧ cell p i 1 ≤ 1000 ∧ 0 ≤ intAt en i ∧ intAt en i ≤ 10000000000000),
      .sl n 2 (fun i => [.int .i64 (arrLo (intAt en i) (cell p i 0)), .int .i64 (arrHi (intAt en i) (cell p i 1))]), none⟩
  | _ => ⟨False, .top, none⟩
/-- The transmittance of a path in a band. -/
def pLo (n : Nat) (get : Nat → List V) (a b c d e f : Int) (k : Nat) : Int := passLo get (fun i => stepHi n get (sqE a b c d e f) (min c f) (max c f) c i) k n
def pHi (n : Nat) (get : Nat → List V) (a b c d e f : Int) (k : Nat) : Int := passHi get (fun i => stepLo n get (sqE a b c d e f) (min c f) (max c f) c i) k n
def arrived2C : Contract := fun _ args =>
  match args with
  | [.sl n sz get, .agg [.int .i64 a, .int .i64 b, .int .i64 c, .int .i64 d, .int .i64 e, .int .i64 f], .sl n' sz' en] =>
    ⟨sz = 5 ∧ IsAir n get ∧ airE n get = 0 ∧ PathOk a b c d e f ∧ sz' = 1 ∧ IsInts n' en ∧ n' = inN get 0 4 ∧ (∀ i, i < n' → 0 ≤ intAt en i ∧ intAt en i ≤ 10000000000000),
      .tup [.sl n' 2 (fun i => [.int .i64 (arrLo (intAt en i) (pLo n get a b c d e f i)), .int .i64 (arrHi (intAt en i) (pHi n get a b c d e f i))]), .int .i64 0], none⟩
  | _ => ⟨False, .top, none⟩
theorem frz_flt {n : Nat} {hp : Heap} {k : FloatKind} {i : Nat} : frz (n + 1) hp (.flt k i) = .flt k i := frz_pu (.flt _ _)
attribute [go_sem] frz_flt fltV Bool.false_eq_true sqrtC divDnC divUpC roundsC directC straightC overC rootC rootsC placedC atC stepsC passedC arrivedC arrived2C
end Go.Fly
end
