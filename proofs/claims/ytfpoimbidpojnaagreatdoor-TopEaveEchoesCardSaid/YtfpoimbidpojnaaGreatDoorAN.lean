/- Part of a proof: an evaluator of the model's code by abstract values, and plain laws for it. No conditions. -/
import Derived.Test.YtfpoimbidpojnaaGreatDoorAL
import Derived.Test.YtfpoimbidpojnaaGreatDoorAM
import Derived.Test.YtfpoimbidpojnaaGreatDoorAI
set_option linter.unusedSimpArgs false
set_option linter.unusedVariables false
section
/- Walls: what screens; lengths; tables. -/
namespace Go.Fly
open Go

/-- The name of a wall. -/
def wName (get : Nat → List V) (i : Nat) : List UInt8 := match (get i)[0]? with | some (V.str s) => s | _ => []
def IsWalls (n : Nat) (get : Nat → List V) : Prop := n ≤ 9223372036854775807 ∧ ∀ i, i < n →
  get i = [.str (wName get i), .int .i64 (cell get i 1), .int .i64 (cell get i 2), .int .i64 (cell get i 3), .int .i64 (cell get i 4), .int .i64 (cell get i 5), .int .i64 (cell get i 6)] ∧ (wName get i).length ≤ 9223372036854775807
theorem IsWalls.pu {n : Nat} {get : Nat → List V} (h : IsWalls n get) : Pu (.sl n 7 get) := pu_sl.2 fun i hi v hv => by
  rw [(h.2 i hi).1] at hv
  simp only [List.mem_cons, List.not_mem_nil, or_false] at hv
  rcases hv with rfl | rfl | rfl | rfl | rfl | rfl | rfl <;> first | exact .int _ _ | exact .str _

/-- The side of a place by a wall, and by a path. -/
def sideE (ax ay bx ky px py den : Int) : Int := (bx - ax) * (py - ay * den) - (ky - ay) * (px - ax * den)
def besideE (sx sy tx ty den px py : Int) : Int := (tx - sx * den) * (py - sy) - (ty - sy * den) * (px - sx)
def oppo (p q : Int) : Bool := (decide (0 < p) && decide (q < 0)) || (decide (p < 0) && decide (0 < q))
def sameS (a b : Int) : Bool := (decide (0 < a) && decide (0 < b)) || (decide (a < 0) && decide (b < 0))
def absE (n : Int) : Int := max n (-n)
/-- Whether a wall stands between two places. -/
def cutB (ax ay bx ky sx sy tx ty den : Int) : Bool :=
  oppo (sideE ax ay bx ky sx sy 1) (sideE ax ay bx ky tx ty den) && !sameS (besideE sx sy tx ty den ax ay) (besideE sx sy tx ty den bx ky)
def excDen (ax ay bx ky sx sy tx ty den : Int) : Int := absE (sideE ax ay bx ky sx sy 1) * den + absE (sideE ax ay bx ky tx ty den)
def excNum (ax ay bx ky h sx sy sz tx ty tz den : Int) : Int :=
  h * excDen ax ay bx ky sx sy tx ty den - absE (sideE ax ay bx ky tx ty den) * sz - absE (sideE ax ay bx ky sx sy 1) * tz
def excB (ax ay bx ky h sx sy sz tx ty tz den : Int) : Bool := cutB ax ay bx ky sx sy tx ty den && decide (0 < excNum ax ay bx ky h sx sy sz tx ty tz den)
/-- The quotient that is rounded up. -/
def ceilE (a b : Int) : Int := if a / b * b < a then a / b + 1 else a / b
/-- The length of a square's side, down and up. -/
def lenLo (sq : Int) : Int := rtN sq.toNat sq.toNat
def lenHi (sq : Int) : Int := if lenLo sq * lenLo sq = sq then lenLo sq else lenLo sq + 1
def apartE (ax ay az bx ky bz : Int) : Int := (ax - bx) * (ax - bx) + (ay - ky) * (ay - ky) + (az - bz) * (az - bz)
def detLo (sx sy sz ex ey ez rx ry rz : Int) : Int := max 0 (lenLo (apartE sx sy sz ex ey ez) + lenLo (apartE ex ey ez rx ry rz) - lenHi (apartE sx sy sz rx ry rz))
def detHi (sx sy sz ex ey ez rx ry rz : Int) : Int := lenHi (apartE sx sy sz ex ey ez) + lenHi (apartE ex ey ez rx ry rz) - lenLo (apartE sx sy sz rx ry rz)
def depthE (ax ay bx ky h sx sy sz rx ry rz : Int) : Int :=
  if excB ax ay bx ky h sx sy sz rx ry rz 1 = true then
    max 1 (min (min (ceilE (excNum ax ay bx ky h sx sy sz rx ry rz 1) (excDen ax ay bx ky sx sy rx ry 1)) (detLo sx sy sz ax ay (min sz rz) rx ry rz)) (detLo sx sy sz bx ky (min sz rz) rx ry rz))
  else 0
def wDepth (get : Nat → List V) (sx sy sz rx ry rz : Int) (i : Nat) : Int := depthE (cell get i 1) (cell get i 2) (cell get i 3) (cell get i 4) (cell get i 5) sx sy sz rx ry rz

/-! ### There and back -/

theorem depth_nn (ax ay bx ky h sx sy sz rx ry rz : Int) : 0 ≤ depthE ax ay bx ky h sx sy sz rx ry rz := by
  unfold depthE; split <;> omega

/-! ### Tables -/

/-- The factor by the first rows of a table. -/
def facE (get : Nat → List V) (d : Int) : Nat → Int
  | 0 => 1000
  | k + 1 => if cell get k 0 ≤ d then cell get k 1 else facE get d k
structure TabOk2 (n : Nat) (get : Nat → List V) : Prop where
  cnt : 0 < n ∧ n ≤ 16
  from_ : ∀ i, i < n → 1 ≤ cell get i 0 ∧ cell get i 0 ≤ 1000000
  fac : ∀ i, i < n → 0 ≤ cell get i 1 ∧ cell get i 1 ≤ 1000
  up : ∀ i, i + 1 < n → cell get i 0 < cell get (i + 1) 0
  down : ∀ i, i + 1 < n → cell get (i + 1) 1 ≤ cell get i 1
theorem fac_bd {n : Nat} {get : Nat → List V} (h : TabOk2 n get) (d : Int) : ∀ {k : Nat}, k ≤ n → 0 ≤ facE get d k ∧ facE get d k ≤ 1000
  | 0, _ => by simp [facE]
  | k + 1, hk => by
    have a := h.fac k (by omega)
    have b := fac_bd h d (k := k) (by omega)
    unfold facE; split <;> omega
/-- Rows behind the first one that is too deep change nothing. -/
theorem fac_stop {n : Nat} {get : Nat → List V} (h : TabOk2 n get) {d : Int} {i : Nat} (hi : i < n) (hd : d < cell get i 0) : ∀ {k : Nat}, i ≤ k → k ≤ n → facE get d k = facE get d i
  | 0, h1, _ => by obtain rfl : i = 0 := by omega
                   rfl
  | k + 1, h1, h2 => by
    by_cases e : i = k + 1
    · rw [e]
    · have hm : ∀ {j : Nat}, i ≤ j → j < n → cell get i 0 ≤ cell get j 0 := by
        intro j
        induction j with
        | zero => intro h1 _; obtain rfl : i = 0 := by omega
                  exact Int.le_refl _
        | succ j ih =>
          intro h1 h2
          by_cases e : i = j + 1
          · subst e; exact Int.le_refl _
          · have := ih (by omega) (by omega)
            have := h.up j h2
            omega
      have := hm (j := k) (by omega) (by omega)
      show (if cell get k 0 ≤ d then cell get k 1 else facE get d k) = facE get d i
      rw [if_neg (by omega)]
      exact fac_stop h hi hd (by omega) (by omega)
/-- What walls leave of an energy. -/
def scrLo (e f : Int) : Int := e * f / 1000
def scrHi (e f : Int) : Int := ceilE (e * f) 1000
theorem len_spec {sq : Int} (h : 0 ≤ sq) : 0 ≤ lenLo sq ∧ lenLo sq * lenLo sq ≤ sq ∧ sq < (lenLo sq + 1) * (lenLo sq + 1) := by
  obtain ⟨S, rfl⟩ := Int.eq_ofNat_of_zero_le h
  unfold lenLo
  simp only [Int.toNat_natCast]
  have a := rtN_sq S S
  have b := rtN_up S S (Nat.le_refl _)
  refine ⟨by omega, by exact_mod_cast a, by exact_mod_cast b⟩
theorem len_eq {sq : Int} {k : Int} (h : 0 ≤ sq) (hk : 0 ≤ k) (h1 : k * k ≤ sq) (h2 : sq < (k + 1) * (k + 1)) : lenLo sq = k := by
  obtain ⟨S, rfl⟩ := Int.eq_ofNat_of_zero_le h
  obtain ⟨K, rfl⟩ := Int.eq_ofNat_of_zero_le hk
  unfold lenLo
  simp only [Int.toNat_natCast]
  rw [rtN_eq (Nat.le_refl _) (by exact_mod_cast h1) (by exact_mod_cast h2)]
end Go.Fly
end
section
/- Contracts of walls, tables and what they screen. -/
namespace Go.Fly
open Go

/-- A valid wall. -/
structure WallOk (nm : List UInt8) (ax ay bx ky h ec : Int) : Prop where
  name : nameB nm = true
  p1 : -1000 ≤ ax ∧ ax ≤ 1000
  p2 : -1000 ≤ ay ∧ ay ≤ 1000
  p3 : -1000 ≤ bx ∧ bx ≤ 1000
  p4 : -1000 ≤ ky ∧ ky ≤ 1000
  two : ¬ (ax = bx ∧ ay = ky)
  high : 1 ≤ h ∧ h ≤ 1000
  echo : 0 ≤ ec ∧ ec ≤ 1000
def SpotOk (x y z : Int) : Prop := (-1000 ≤ x ∧ x ≤ 1000) ∧ (-1000 ≤ y ∧ y ≤ 1000) ∧ 0 ≤ z ∧ z ≤ 1000
structure WallsOk (n : Nat) (get : Nat → List V) : Prop where
  cnt : n ≤ 32
  wall : ∀ i, i < n → WallOk (wName get i) (cell get i 1) (cell get i 2) (cell get i 3) (cell get i 4) (cell get i 5) (cell get i 6)
  two : ∀ i k, i < n → k < i → wName get k ≠ wName get i

def point2E (x y : Int) : Int := firstL [rng x (-1000) 1000, rng y (-1000) 1000]
def spotE (x y z : Int) : Int := firstL [point2E x y, rng z 0 1000]
theorem point2E_zero {x y : Int} : point2E x y = 0 ↔ (-1000 ≤ x ∧ x ≤ 1000) ∧ -1000 ≤ y ∧ y ≤ 1000 := by
  unfold point2E; rw [firstL_zero]; simp [rng_zero]
theorem spotE_zero {x y z : Int} : spotE x y z = 0 ↔ SpotOk x y z := by
  unfold spotE SpotOk; rw [firstL_zero]; simp [rng_zero, point2E_zero, and_assoc]
def wallE (nm : List UInt8) (ax ay bx ky h ec : Int) : Int :=
  firstL [err (!nameB nm) 8, point2E ax ay, point2E bx ky, err (decide (ax = bx) && decide (ay = ky)) 24, rng h 1 1000, rng ec 0 1000]
theorem wallE_zero {nm : List UInt8} {ax ay bx ky h ec : Int} : wallE nm ax ay bx ky h ec = 0 ↔ WallOk nm ax ay bx ky h ec := by
  unfold wallE; rw [firstL_zero]
  simp only [List.mem_cons, List.not_mem_nil, or_false, forall_eq_or_imp, forall_eq, point2E_zero, rng_zero, err_zero (show (8 : Int) ≠ 0 by decide), err_zero (show (24 : Int) ≠ 0 by decide), Bool.not_eq_false', Bool.and_eq_false_iff, decide_eq_false_iff_not]
  constructor
  · rintro ⟨h1, ⟨h2, h3⟩, ⟨h4, h5⟩, h6, h7, h8⟩
    exact ⟨h1, h2, h3, h4, h5, fun q => h6.elim (fun h => h q.1) (fun h => h q.2), h7, h8⟩
  · rintro ⟨h1, h2, h3, h4, h5, h6, h7, h8⟩
    refine ⟨h1, ⟨h2, h3⟩, ⟨h4, h5⟩, ?_, h7, h8⟩
    by_cases e : ax = bx
    · exact .inr fun q => h6 ⟨e, q⟩
    · exact .inl e
def wAt (get : Nat → List V) (i : Nat) : Int := wallE (wName get i) (cell get i 1) (cell get i 2) (cell get i 3) (cell get i 4) (cell get i 5) (cell get i 6)
def dupB (get : Nat → List V) (i : Nat) : Bool := decide (∃ k, k < i ∧ wName get k = wName get i)
def wallsAt (get : Nat → List V) (i : Nat) : Int := if wAt get i ≠ 0 then wAt get i else err (dupB get i) 9
def wallsE (n : Nat) (get : Nat → List V) : Int := if 32 < n then 5 else firstI (wallsAt get) 0 n
theorem wallsE_zero {n : Nat} {get : Nat → List V} : wallsE n get = 0 ↔ WallsOk n get := by
  unfold wallsE
  by_cases hn : 32 < n
  · rw [if_pos hn]
    exact ⟨fun h => by omega, fun h => absurd h.cnt (by omega)⟩
  · rw [if_neg hn, firstI_zero]
    have hat : ∀ i, wallsAt get i = 0 ↔ wAt get i = 0 ∧ dupB get i = false := fun i => by
      unfold wallsAt
      by_cases h : wAt get i = 0
      · simp only [h, ne_eq, not_true_eq_false, if_false, err_zero (show (9 : Int) ≠ 0 by decide), true_and]
      · simp only [ne_eq, h, not_false_eq_true, if_true, false_and]
    constructor
    · intro h
      refine ⟨by omega, fun i hi => wallE_zero.1 ((hat i).1 (h i (Nat.zero_le _) (by omega))).1, fun i k hi hk e => ?_⟩
      have := ((hat i).1 (h i (Nat.zero_le _) (by omega))).2
      unfold dupB at this
      simp only [decide_eq_false_iff_not] at this
      exact this ⟨k, hk, e⟩
    · intro h i _ hi
      refine (hat i).2 ⟨wallE_zero.2 (h.wall i (by omega)), ?_⟩
      unfold dupB
      simp only [decide_eq_false_iff_not]
      rintro ⟨k, hk, e⟩
      exact h.two i k (by omega) hk e
def tabAt (get : Nat → List V) (i : Nat) : Int :=
  if firstL [rng (cell get i 0) 1 1000000, rng (cell get i 1) 0 1000] ≠ 0 then firstL [rng (cell get i 0) 1 1000000, rng (cell get i 1) 0 1000]
  else err (decide (0 < i) && (decide (cell get i 0 ≤ cell get (i - 1) 0) || decide (cell get (i - 1) 1 < cell get i 1))) 11
def tableE (n : Nat) (get : Nat → List V) : Int := if n = 0 then 12 else if 16 < n then 5 else firstI (tabAt get) 0 n
theorem tableE_zero {n : Nat} {get : Nat → List V} (h : tableE n get = 0) : TabOk2 n get := by
  unfold tableE at h
  by_cases h0 : n = 0
  · rw [if_pos h0] at h; omega
  · rw [if_neg h0] at h
    by_cases h1 : 16 < n
    · rw [if_pos h1] at h; omega
    · rw [if_neg h1, firstI_zero] at h
      have hat : ∀ i, i < n → (1 ≤ cell get i 0 ∧ cell get i 0 ≤ 1000000) ∧ (0 ≤ cell get i 1 ∧ cell get i 1 ≤ 1000) ∧ (0 < i → cell get (i - 1) 0 < cell get i 0 ∧ cell get i 1 ≤ cell get (i - 1) 1) := fun i hi => by
        have := h i (Nat.zero_le _) (by omega)
        unfold tabAt at this
        by_cases q : firstL [rng (cell get i 0) 1 1000000, rng (cell get i 1) 0 1000] = 0
        · simp only [q, ne_eq, not_true_eq_false, if_false, err_zero (show (11 : Int) ≠ 0 by decide), Bool.and_eq_false_iff, Bool.or_eq_false_iff, decide_eq_false_iff_not] at this
          rw [firstL_zero] at q
          simp only [List.mem_cons, List.not_mem_nil, or_false, forall_eq_or_imp, forall_eq, rng_zero] at q
          refine ⟨q.1, q.2, fun hi0 => ?_⟩
          rcases this with h | h
          · exact absurd hi0 h
          · omega
        · simp only [ne_eq, q, not_false_eq_true, if_true] at this
      exact ⟨by omega, fun i hi => (hat i hi).1, fun i hi => (hat i hi).2.1, fun i hi => by have := (hat (i + 1) hi).2.2 (by omega); simpa using this.1, fun i hi => by have := (hat (i + 1) hi).2.2 (by omega); simpa using this.2⟩

/-! ### Contracts -/

def nanC : Contract := fun _ args =>
  match args with
  | [.int .i64 _] => ⟨True, .bool false, none⟩
  | _ => ⟨False, .top, none⟩
def absC : Contract := fun _ args =>
  match args with
  | [.int .i64 n] => ⟨-4000000000000000000 ≤ n ∧ n ≤ 4000000000000000000, .int .i64 (absE n), none⟩
  | _ => ⟨False, .top, none⟩
def placeC (sel : Int → Int → Int → Int → Int) : Contract := fun _ args =>
  match args with
  | [.agg [.str nm, .int .i64 ax, .int .i64 ay, .int .i64 bx, .int .i64 ky, .int .i64 h, .int .i64 ec]] => ⟨True, .int .i64 (sel ax ay bx ky), none⟩
  | _ => ⟨False, .top, none⟩
theorem firstL_nest (a b c : Int) : firstL [a, b, c] = firstL [firstL [a, b], c] := by
  simp only [firstL]
  by_cases h1 : a = 0 <;> by_cases h2 : b = 0 <;> simp [h1, h2]
theorem spotE3 (x y z : Int) : firstL [rng x (-1000) 1000, rng y (-1000) 1000, rng z 0 1000] = spotE x y z := by
  unfold spotE point2E; exact firstL_nest _ _ _
def cmpE (x y : Int) : Int := if x < y then -1 else if y < x then 1 else 0
def cmpC : Contract := fun _ args =>
  match args with
  | [.int .i64 x, .int .i64 y] => ⟨True, .int .i64 (cmpE x y), none⟩
  | _ => ⟨False, .top, none⟩
def point2C : Contract := fun _ args =>
  match args with
  | [.agg [.int .i64 x, .int .i64 y]] => ⟨True, .int .i64 (point2E x y), none⟩
  | _ => ⟨False, .top, none⟩
def spotC : Contract := fun _ args =>
  match args with
  | [.agg [.int .i64 x, .int .i64 y, .int .i64 z]] => ⟨True, .int .i64 (spotE x y z), none⟩
  | _ => ⟨False, .top, none⟩
def planC : Contract := fun _ args =>
  match args with
  | [.agg [.int .i64 x, .int .i64 y, .int .i64 z]] => ⟨True, .agg [.int .i64 x, .int .i64 y], none⟩
  | _ => ⟨False, .top, none⟩
def spots2C : Contract := fun _ args =>
  match args with
  | [.agg [.int .i64 x, .int .i64 y, .int .i64 z], .agg [.int .i64 u, .int .i64 v, .int .i64 w]] => ⟨True, .int .i64 (firstL [spotE x y z, spotE u v w]), none⟩
  | _ => ⟨False, .top, none⟩
def chkNameC : Contract := fun _ args =>
  match args with
  | [.str s] => ⟨s.length ≤ 9223372036854775807, .int .i64 (err (!nameB s) 8), none⟩
  | _ => ⟨False, .top, none⟩
def wallC : Contract := fun _ args =>
  match args with
  | [.agg [.str nm, .int .i64 ax, .int .i64 ay, .int .i64 bx, .int .i64 ky, .int .i64 h, .int .i64 ec]] => ⟨nm.length ≤ 9223372036854775807, .int .i64 (wallE nm ax ay bx ky h ec), none⟩
  | _ => ⟨False, .top, none⟩
def wallsC : Contract := fun _ args =>
  match args with
  | [.sl n sz get] => ⟨sz = 7 ∧ IsWalls n get, .int .i64 (wallsE n get), none⟩
  | _ => ⟨False, .top, none⟩
/-- The check of valid walls. -/
def wallsOkC : Contract := fun _ args =>
  match args with
  | [.sl n sz get] => ⟨sz = 7 ∧ IsWalls n get ∧ WallsOk n get, .int .i64 0, none⟩
  | _ => ⟨False, .top, none⟩
def wallOkC : Contract := fun _ args =>
  match args with
  | [.agg [.str nm, .int .i64 ax, .int .i64 ay, .int .i64 bx, .int .i64 ky, .int .i64 h, .int .i64 ec]] => ⟨nm.length ≤ 9223372036854775807 ∧ WallOk nm ax ay bx ky h ec, .int .i64 0, none⟩
  | _ => ⟨False, .top, none⟩
def shortWallsB (n : Nat) (get : Nat → List V) : Bool := (decide (n ≤ 5) || decide (n = 33)) && decide (∀ i, i < n → (wName get i).length ≤ 40)
def shortWallsC : Contract := fun _ args =>
  match args with
  | [.sl n sz get] => ⟨sz = 7 ∧ IsWalls n get, .bool (shortWallsB n get), none⟩
  | _ => ⟨False, .top, none⟩
def tableC : Contract := fun _ args =>
  match args with
  | [.sl n sz get] => ⟨sz = 2 ∧ IsIv n get, .int .i64 (tableE n get), none⟩
  | _ => ⟨False, .top, none⟩
def tableOkC : Contract := fun _ args =>
  match args with
  | [.sl n sz get] => ⟨sz = 2 ∧ IsIv n get ∧ TabOk2 n get, .int .i64 0, none⟩
  | _ => ⟨False, .top, none⟩
def wholeC : Contract := fun _ args =>
  match args with
  | [.agg [.int .i64 x, .int .i64 y, .int .i64 z]] => ⟨True, .agg [.int .i64 x, .int .i64 y, .int .i64 z, .int .i64 1], none⟩
  | _ => ⟨False, .top, none⟩
def wsideC : Contract := fun _ args =>
  match args with
  | [.agg [.str nm, .int .i64 ax, .int .i64 ay, .int .i64 bx, .int .i64 ky, .int .i64 h, .int .i64 ec], .agg [.int .i64 px, .int .i64 py, .int .i64 pz, .int .i64 den]] =>
    ⟨WallOk nm ax ay bx ky h ec ∧ 0 < den ∧ den ≤ 20000000 ∧ (-(1000 * den) ≤ px ∧ px ≤ 1000 * den) ∧ (-(1000 * den) ≤ py ∧ py ≤ 1000 * den), .int .i64 (sideE ax ay bx ky px py den), none⟩
  | _ => ⟨False, .top, none⟩
def besideC : Contract := fun _ args =>
  match args with
  | [.agg [.int .i64 sx, .int .i64 sy, .int .i64 sz], .agg [.int .i64 tx, .int .i64 ty, .int .i64 tz, .int .i64 den], .agg [.int .i64 px, .int .i64 py]] =>
    ⟨0 < den ∧ den ≤ 20000000 ∧ (-5000 ≤ sx ∧ sx ≤ 5000) ∧ (-5000 ≤ sy ∧ sy ≤ 5000) ∧ (-(1000 * den) ≤ tx ∧ tx ≤ 1000 * den) ∧ (-(1000 * den) ≤ ty ∧ ty ≤ 1000 * den) ∧ (-1000 ≤ px ∧ px ≤ 1000) ∧ (-1000 ≤ py ∧ py ≤ 1000),
      .int .i64 (besideE sx sy tx ty den px py), none⟩
  | _ => ⟨False, .top, none⟩
def upC : Contract := fun _ args =>
  match args with
  | [.agg [.int .i64 a, .int .i64 b]] => ⟨0 ≤ a ∧ a ≤ 1000000000000000000 ∧ 0 < b, .int .i64 (ceilE a b), none⟩
  | _ => ⟨False, .top, none⟩
def excessC : Contract := fun _ args =>
  match args with
  | [.agg [.str nm, .int .i64 ax, .int .i64 ay, .int .i64 bx, .int .i64 ky, .int .i64 h, .int .i64 ec], .agg [.int .i64 sx, .int .i64 sy, .int .i64 sz], .agg [.int .i64 tx, .int .i64 ty, .int .i64 tz, .int .i64 den]] =>
    ⟨WallOk nm ax ay bx ky h ec ∧ SpotOk sx sy sz ∧ 0 < den ∧ den ≤ 20000000 ∧ (-(1000 * den) ≤ tx ∧ tx ≤ 1000 * den) ∧ (-(1000 * den) ≤ ty ∧ ty ≤ 1000 * den) ∧ 0 ≤ tz ∧ tz ≤ 1000 * den,
      .tup [.agg [.int .i64 (if cutB ax ay bx ky sx sy tx ty den = true then excNum ax ay bx ky h sx sy sz tx ty tz den else 0), .int .i64 (if cutB ax ay bx ky sx sy tx ty den = true then excDen ax ay bx ky sx sy tx ty den else 0)],
        .bool (excB ax ay bx ky h sx sy sz tx ty tz den)], none⟩
  | _ => ⟨False, .top, none⟩
def lengthC : Contract := fun _ args =>
  match args with
  | [.int .i64 sq] => ⟨0 ≤ sq ∧ sq ≤ 1000000000000, .agg [.int .i64 (lenLo sq), .int .i64 (lenHi sq)], none⟩
  | _ => ⟨False, .top, none⟩
def length2C : Contract := fun _ args =>
  match args with
  | [.int .i64 sq] => ⟨0 ≤ sq ∧ sq ≤ 20000000, .tup [.agg [.int .i64 (lenLo sq), .int .i64 (lenHi sq)], .int .i64 0], none⟩
  | _ => ⟨False, .top, none⟩
def apartC : Contract := fun _ args =>
  match args with
  | [.agg [.int .i64 x, .int .i64 y, .int .i64 z], .agg [.int .i64 u, .int .i64 v, .int .i64 w]] => ⟨SpotOk x y z ∧ SpotOk u v w, .int .i64 (apartE x y z u v w), none⟩
  | _ => ⟨False, .top, none⟩
def detourC : Contract := fun _ args =>
  match args with
  | [.agg [.int .i64 x, .int .i64 y, .int .i64 z], .agg [.int .i64 ex, .int .i64 ey, .int .i64 ez], .agg [.int .i64 u, .int .i64 v, .int .i64 w]] => ⟨SpotOk x y z ∧ SpotOk ex ey ez ∧ SpotOk u v w,
      .agg [.int .i64 (detLo x y z ex ey ez u v w), .int .i64 (detHi x y z ex ey ez u v w)], none⟩
  | _ => ⟨False, .top, none⟩
def depthC : Contract := fun _ args =>
  match args with
  | [.agg [.str nm, .int .i64 ax, .int .i64 ay, .int .i64 bx, .int .i64 ky, .int .i64 h, .int .i64 ec], .agg [.int .i64 sx, .int .i64 sy, .int .i64 sz], .agg [.int .i64 rx, .int .i64 ry, .int .i64 rz]] =>
    ⟨WallOk nm ax ay bx ky h ec ∧ SpotOk sx sy sz ∧ SpotOk rx ry rz, .int .i64 (depthE ax ay bx ky h sx sy sz rx ry rz), none⟩
  | _ => ⟨False, .top, none⟩
def capDepthC : Contract := fun _ args =>
  match args with
  | [.agg [.str nm, .int .i64 ax, .int .i64 ay, .int .i64 bx, .int .i64 ky, .int .i64 h, .int .i64 ec], .cptr [.int .i64 sx, .int .i64 sy, .int .i64 sz], .cptr [.int .i64 rx, .int .i64 ry, .int .i64 rz]] =>
    ⟨WallOk nm ax ay bx ky h ec ∧ SpotOk sx sy sz ∧ SpotOk rx ry rz, .int .i64 (depthE ax ay bx ky h sx sy sz rx ry rz), none⟩
  | _ => ⟨False, .top, none⟩
def mapDepthC (g1 : FuncId) : Contract := fun _ args =>
  match args with
  | [.sl n sz get, .fn (.func g) [] [.cptr [.int .i64 sx, .int .i64 sy, .int .i64 sz'], .cptr [.int .i64 rx, .int .i64 ry, .int .i64 rz]]] =>
    ⟨sz = 7 ∧ IsWalls n get ∧ WallsOk n get ∧ g = g1 ∧ SpotOk sx sy sz' ∧ SpotOk rx ry rz, .sl n 1 (fun i => [.int .i64 (wDepth get sx sy sz' rx ry rz i)]), none⟩
  | _ => ⟨False, .top, none⟩
def depthsC : Contract := fun _ args =>
  match args with
  | [.sl n sz get, .agg [.int .i64 sx, .int .i64 sy, .int .i64 sz'], .agg [.int .i64 rx, .int .i64 ry, .int .i64 rz]] =>
    ⟨sz = 7 ∧ IsWalls n get ∧ WallsOk n get ∧ SpotOk sx sy sz' ∧ SpotOk rx ry rz, .tup [.sl n 1 (fun i => [.int .i64 (wDepth get sx sy sz' rx ry rz i)]), .int .i64 (sumI (wDepth get sx sy sz' rx ry rz) n)], none⟩
  | _ => ⟨False, .top, none⟩
def factorC : Contract := fun _ args =>
  match args with
  | [.sl n sz get, .int .i64 d] => ⟨sz = 2 ∧ IsIv n get ∧ TabOk2 n get, .int .i64 (facE get d n), none⟩
  | _ => ⟨False, .top, none⟩
def timesC : Contract := fun _ args =>
  match args with
  | [.int .i64 e, .int .i64 f] => ⟨0 ≤ e ∧ e ≤ 10000000000000 ∧ 0 ≤ f ∧ f ≤ 1000, .agg [.int .i64 (scrLo e f), .int .i64 (scrHi e f)], none⟩
  | _ => ⟨False, .top, none⟩
/-- What is left of an energy behind walls. -/
def scrF (n : Nat) (get : Nat → List V) (nt : Nat) (gt : Nat → List V) (sx sy sz rx ry rz : Int) : Int := facE gt (sumI (wDepth get sx sy sz rx ry rz) n) nt
def heardOkC : Contract := fun _ args =>
  match args with
  | [.sl n sz get, .sl nt st gt, .agg [.int .i64 sx, .int .i64 sy, .int .i64 sz', .int .i64 rx, .int .i64 ry, .int .i64 rz], .int .i64 e] =>
    ⟨sz = 7 ∧ IsWalls n get ∧ WallsOk n get ∧ st = 2 ∧ IsIv nt gt ∧ TabOk2 nt gt ∧ SpotOk sx sy sz' ∧ SpotOk rx ry rz ∧ 0 ≤ e ∧ e ≤ 10000000000000, .int .i64 0, none⟩
  | _ => ⟨False, .top, none⟩
def screenC : Contract := fun _ args =>
  match args with
  | [.sl n sz get, .sl nt st gt, .agg [.int .i64 sx, .int .i64 sy, .int .i64 sz', .int .i64 rx, .int .i64 ry, .int .i64 rz], .int .i64 e] =>
    ⟨sz = 7 ∧ IsWalls n get ∧ WallsOk n get ∧ st = 2 ∧ IsIv nt gt ∧ TabOk2 nt gt ∧ SpotOk sx sy sz' ∧ SpotOk rx ry rz ∧ 0 ≤ e ∧ e ≤ 10000000000000,
      .agg [.int .i64 (scrLo e (scrF n get nt gt sx sy sz' rx ry rz)), .int .i64 (scrHi e (scrF n get nt gt sx sy sz' rx ry rz))], none⟩
  | _ => ⟨False, .top, none⟩
def screen2C : Contract := fun _ args =>
  match args with
  | [.sl n sz get, .sl nt st gt, .agg [.int .i64 sx, .int .i64 sy, .int .i64 sz', .int .i64 rx, .int .i64 ry, .int .i64 rz], .int .i64 e] =>
    ⟨sz = 7 ∧ IsWalls n get ∧ WallsOk n get ∧ st = 2 ∧ IsIv nt gt ∧ TabOk2 nt gt ∧ SpotOk sx sy sz' ∧ SpotOk rx ry rz ∧ 0 ≤ e ∧ e ≤ 10000000000000,
      .tup [.agg [.int .i64 (scrLo e (scrF n get nt gt sx sy sz' rx ry rz)), .int .i64 (scrHi e (scrF n get nt gt sx sy sz' rx ry rz))], .int .i64 0], none⟩
  | _ => ⟨False, .top, none⟩
attribute [go_sem] nanC absC placeC cmpC point2C spotC planC spots2C chkNameC wallC wallsC wallsOkC wallOkC shortWallsC tableC tableOkC wholeC wsideC besideC upC excessC lengthC length2C apartC detourC depthC capDepthC mapDepthC depthsC factorC timesC heardOkC screenC screen2C
end Go.Fly
end
section
/- Airs with opposite winds; how paths are bent. -/
namespace Go.Fly
open Go

/-! ### Contracts -/

end Go.Fly
end
section
/- Bounds of sides, lengths and depths. -/
namespace Go.Fly
open Go

theorem side_bd {ax ay bx ky px py den : Int} (h1 : -1000 ≤ ax ∧ ax ≤ 1000) (h2 : -1000 ≤ ay ∧ ay ≤ 1000) (h3 : -1000 ≤ bx ∧ bx ≤ 1000) (h4 : -1000 ≤ ky ∧ ky ≤ 1000)
    (h5 : 0 < den) (h6 : den ≤ 20000000) (h7 : -(1000 * den) ≤ px ∧ px ≤ 1000 * den) (h8 : -(1000 * den) ≤ py ∧ py ≤ 1000 * den) :
    (-20000000000 ≤ ay * den ∧ ay * den ≤ 20000000000) ∧ (-20000000000 ≤ ax * den ∧ ax * den ≤ 20000000000) ∧
    (-(2000 * (2000 * den)) ≤ (bx - ax) * (py - ay * den) ∧ (bx - ax) * (py - ay * den) ≤ 2000 * (2000 * den)) ∧
    (-(2000 * (2000 * den)) ≤ (ky - ay) * (px - ax * den) ∧ (ky - ay) * (px - ax * den) ≤ 2000 * (2000 * den)) ∧
    (-(8000000 * den) ≤ sideE ax ay bx ky px py den ∧ sideE ax ay bx ky px py den ≤ 8000000 * den) := by
  have a1 := mul_abs_le (A := 1000) (B := den) h2.1 h2.2 (b := den) (by omega) (by omega)
  have a2 := mul_abs_le (A := 1000) (B := den) h1.1 h1.2 (b := den) (by omega) (by omega)
  have a3 := mul_abs_le (a := bx - ax) (A := 2000) (B := 2000 * den) (by omega) (by omega) (b := py - ay * den) (by omega) (by omega)
  have a4 := mul_abs_le (a := ky - ay) (A := 2000) (B := 2000 * den) (by omega) (by omega) (b := px - ax * den) (by omega) (by omega)
  unfold sideE
  refine ⟨by omega, by omega, a3, a4, by omega, by omega⟩
theorem absE_le {n k : Int} (h : -k ≤ n ∧ n ≤ k) : 0 ≤ absE n ∧ absE n ≤ k := by unfold absE; omega
theorem absE_pos {n : Int} (h : n ≠ 0) : 0 < absE n := by unfold absE; omega
theorem beside_bd {sx sy tx ty den px py : Int} (h5 : 0 < den) (h6 : den ≤ 20000000) (h1 : -5000 ≤ sx ∧ sx ≤ 5000) (h2 : -5000 ≤ sy ∧ sy ≤ 5000)
    (h7 : -(1000 * den) ≤ tx ∧ tx ≤ 1000 * den) (h8 : -(1000 * den) ≤ ty ∧ ty ≤ 1000 * den) (h3 : -1000 ≤ px ∧ px ≤ 1000) (h4 : -1000 ≤ py ∧ py ≤ 1000) :
    (-(5000 * den) ≤ sx * den ∧ sx * den ≤ 5000 * den) ∧ (-(5000 * den) ≤ sy * den ∧ sy * den ≤ 5000 * den) ∧
    (-(6000 * den * 6000) ≤ (tx - sx * den) * (py - sy) ∧ (tx - sx * den) * (py - sy) ≤ 6000 * den * 6000) ∧
    (-(6000 * den * 6000) ≤ (ty - sy * den) * (px - sx) ∧ (ty - sy * den) * (px - sx) ≤ 6000 * den * 6000) ∧
    (-(72000000 * den) ≤ besideE sx sy tx ty den px py ∧ besideE sx sy tx ty den px py ≤ 72000000 * den) := by
  have a1 := mul_abs_le (A := 5000) (B := den) h1.1 h1.2 (b := den) (by omega) (by omega)
  have a2 := mul_abs_le (A := 5000) (B := den) h2.1 h2.2 (b := den) (by omega) (by omega)
  have a3 := mul_abs_le (a := tx - sx * den) (A := 6000 * den) (B := 6000) (by omega) (by omega) (b := py - sy) (by omega) (by omega)
  have a4 := mul_abs_le (a := ty - sy * den) (A := 6000 * den) (B := 6000) (by omega) (by omega) (b := px - sx) (by omega) (by omega)
  unfold besideE
  refine ⟨a1, a2, a3, a4, by omega, by omega⟩
theorem sq_bd {n k : Int} (h : -k ≤ n ∧ n ≤ k) : 0 ≤ n * n ∧ n * n ≤ k * k := by
  have a := mul_abs_le h.1 h.2 h.1 h.2
  have b : 0 ≤ n * n := by
    rcases Int.le_total 0 n with h | h
    · exact Int.mul_nonneg h h
    · rw [← Int.neg_mul_neg]; exact Int.mul_nonneg (by omega) (by omega)
  omega
theorem apart_bd {x y z u v w : Int} (h : SpotOk x y z) (h' : SpotOk u v w) :
    (0 ≤ (x - u) * (x - u) ∧ (x - u) * (x - u) ≤ 4000000) ∧ (0 ≤ (y - v) * (y - v) ∧ (y - v) * (y - v) ≤ 4000000) ∧ (0 ≤ (z - w) * (z - w) ∧ (z - w) * (z - w) ≤ 1000000) ∧
    0 ≤ apartE x y z u v w ∧ apartE x y z u v w ≤ 9000000 := by
  obtain ⟨h1, h2, h3⟩ := h
  obtain ⟨g1, g2, g3⟩ := h'
  have a := sq_bd (n := x - u) (k := 2000) (by omega)
  have b := sq_bd (n := y - v) (k := 2000) (by omega)
  have c := sq_bd (n := z - w) (k := 1000) (by omega)
  unfold apartE
  exact ⟨a, b, c, by omega, by omega⟩
theorem len_bd {sq k : Int} (h : 0 ≤ sq) (hk : 0 ≤ k) (h1 : sq ≤ k * k) : 0 ≤ lenLo sq ∧ lenLo sq ≤ lenHi sq ∧ lenHi sq ≤ k + 1 ∧ lenLo sq ≤ k := by
  obtain ⟨a, b, c⟩ := len_spec h
  have d : lenLo sq ≤ k := by
    apply Int.not_lt.1
    intro q
    have := mul_le_of (a := k + 1) (A := lenLo sq) (b := k + 1) (B := lenLo sq) (by omega) (by omega) (by omega) (by omega)
    have e : (k + 1) * (k + 1) = k * k + 2 * k + 1 := by rw [Int.add_mul, Int.mul_add]; omega
    omega
  unfold lenHi
  split <;> omega
theorem ceil_bd {a b : Int} (h : 0 < b) (ha : 0 ≤ a) : 0 ≤ a / b ∧ a / b ≤ a ∧ a / b * b ≤ a ∧ 0 ≤ ceilE a b ∧ ceilE a b ≤ a + 1 := by
  have h1 := Int.ediv_nonneg ha (Int.le_of_lt h)
  have h2 : a / b ≤ a := Int.ediv_le_self b ha
  have h3 := Int.ediv_mul_le a (show b ≠ 0 by omega)
  unfold ceilE
  split <;> omega
/-- What cuts has a measure on each side. -/
theorem cut_pos {ax ay bx ky sx sy tx ty den : Int} (h : cutB ax ay bx ky sx sy tx ty den = true) : sideE ax ay bx ky sx sy 1 ≠ 0 ∧ sideE ax ay bx ky tx ty den ≠ 0 := by
  unfold cutB oppo at h
  simp only [Bool.and_eq_true, Bool.or_eq_true, decide_eq_true_eq] at h
  omega
theorem exc_bd {ax ay bx ky h sx sy sz tx ty tz den : Int} (h1 : -1000 ≤ ax ∧ ax ≤ 1000) (h2 : -1000 ≤ ay ∧ ay ≤ 1000) (h3 : -1000 ≤ bx ∧ bx ≤ 1000) (h4 : -1000 ≤ ky ∧ ky ≤ 1000) (hh : 1 ≤ h ∧ h ≤ 1000)
    (hs : SpotOk sx sy sz) (h5 : 0 < den) (h6 : den ≤ 20000000) (h7 : -(1000 * den) ≤ tx ∧ tx ≤ 1000 * den) (h8 : -(1000 * den) ≤ ty ∧ ty ≤ 1000 * den) (h9 : 0 ≤ tz ∧ tz ≤ 1000 * den) :
    (0 ≤ absE (sideE ax ay bx ky sx sy 1) * den ∧ absE (sideE ax ay bx ky sx sy 1) * den ≤ 8000000 * den) ∧
    (0 ≤ excDen ax ay bx ky sx sy tx ty den ∧ excDen ax ay bx ky sx sy tx ty den ≤ 16000000 * den) ∧
    (0 ≤ h * excDen ax ay bx ky sx sy tx ty den ∧ h * excDen ax ay bx ky sx sy tx ty den ≤ 1000 * (16000000 * den)) ∧
    (0 ≤ absE (sideE ax ay bx ky tx ty den) * sz ∧ absE (sideE ax ay bx ky tx ty den) * sz ≤ 8000000 * den * 1000) ∧
    (0 ≤ absE (sideE ax ay bx ky sx sy 1) * tz ∧ absE (sideE ax ay bx ky sx sy 1) * tz ≤ 8000000 * (1000 * den)) ∧
    (cutB ax ay bx ky sx sy tx ty den = true → 0 < excDen ax ay bx ky sx sy tx ty den) := by
  have s1 := absE_le (side_bd h1 h2 h3 h4 (px := sx) (py := sy) (den := 1) (by omega) (by omega) (by have := hs.1; omega) (by have := hs.2.1; omega)).2.2.2.2
  have s2 := absE_le (side_bd h1 h2 h3 h4 h5 h6 h7 h8).2.2.2.2
  have a1 := mul_le_of s1.1 s1.2 (b := den) (B := den) (by omega) (by omega)
  have a2 : 0 ≤ excDen ax ay bx ky sx sy tx ty den ∧ excDen ax ay bx ky sx sy tx ty den ≤ 16000000 * den := by unfold excDen; omega
  have a3 := mul_le_of (a := h) (A := 1000) (by omega) (by omega) a2.1 a2.2
  have a4 := mul_le_of s2.1 s2.2 (b := sz) (B := 1000) hs.2.2.1 hs.2.2.2
  have a5 := mul_le_of s1.1 s1.2 h9.1 h9.2
  refine ⟨by omega, a2, a3, a4, by omega, fun hc => ?_⟩
  have p := absE_pos (cut_pos hc).2
  unfold excDen
  omega
/-- No depth is great. -/
theorem depth_bd {ax ay bx ky h sx sy sz rx ry rz : Int} (h1 : -1000 ≤ ax ∧ ax ≤ 1000) (h2 : -1000 ≤ ay ∧ ay ≤ 1000) (hs : SpotOk sx sy sz) (hr : SpotOk rx ry rz) : depthE ax ay bx ky h sx sy sz rx ry rz ≤ 10000 := by
  have hz : SpotOk ax ay (min sz rz) := ⟨h1, h2, by have := hs.2.2; have := hr.2.2; omega, by have := hs.2.2; have := hr.2.2; omega⟩
  have b1 := (apart_bd hs hz).2.2.2
  have b2 := (apart_bd hz hr).2.2.2
  have b3 := (apart_bd hs hr).2.2.2
  have c1 := len_bd b1.1 (k := 3000) (by omega) (by omega)
  have c2 := len_bd b2.1 (k := 3000) (by omega) (by omega)
  have c3 := len_bd b3.1 (k := 3000) (by omega) (by omega)
  have d : detLo sx sy sz ax ay (min sz rz) rx ry rz ≤ 6000 := by unfold detLo; omega
  unfold depthE
  split <;> omega
end Go.Fly
end
