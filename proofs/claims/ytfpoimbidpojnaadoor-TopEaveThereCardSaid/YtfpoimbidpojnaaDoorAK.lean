/- Part of a proof: an evaluator of the model's code by abstract values, and plain laws for it. No conditions. -/
import Derived.Test.YtfpoimbidpojnaaDoorAI
import Derived.Test.YtfpoimbidpojnaaDoorAJ
set_option linter.unusedSimpArgs false
set_option linter.unusedVariables false
section
/- Contracts of the verifier's functions. -/
namespace Go.Fly
open Go

theorem heardE_bd {s : List UInt8} {ns : Nat} {gs : Nat → List V} {d : Nat → Int} {side : Int} {nq : Nat} {gq : Nat → List V} {m : Nat} {gt : Nat → List V} (h : TypeOk s ns gs d side nq gq m gt) (hx hy p x y z : Int) :
    0 ≤ heardE d side nq gq m gt hx hy p x y z ∧ heardE d side nq gq m gt hx hy p x y z ≤ 200000000 := by
  have hem := emE_bd h p (x * x + y * y + z * z)
  have hsec := sectorE_bd hx hy x y
  unfold heardE
  simp only
  obtain ⟨k, hk⟩ : ∃ k : Int, (if x * x + y * y = 0 ∧ z * z = 0 then 0 else sectorE hx hy x y) = k := ⟨_, rfl⟩
  have hk8 : 0 ≤ k ∧ k ≤ 7 := by rw [← hk]; split <;> omega
  rw [hk]
  have hd := h.dir k.toNat (by omega)
  have hs := h.sideOk
  have b1 := mul_le_of hem.1 hem.2 hd.1 hd.2
  have b2 := mul_le_of b1.1 b1.2 hs.1 hs.2
  split <;> omega

theorem sumI_add {f g : Nat → Int} : ∀ {n : Nat}, sumI (fun i => f i + g i) n = sumI f n + sumI g n
  | 0 => rfl
  | n + 1 => by simp only [sumI]; rw [sumI_add]; omega
theorem sumI_first (c : Int) : ∀ {n : Nat}, 0 < n → sumI (fun i => if i = 0 then c else 0) n = c
  | 0, h => by omega
  | 1, _ => by simp [sumI]
  | n + 2, _ => by
    simp only [sumI]
    have := sumI_first c (n := n + 1) (by omega)
    simp only [sumI] at this
    rw [this]
    simp
theorem sum_bandsE {e : Int} {f : Nat → Int} {n : Nat} (hn : 0 < n) : sumI (bandsE e f n) n = e := by
  have h : sumI (bandsE e f n) n = sumI (fun i => bandE e (f i) + if i = 0 then e - sumI (fun i => bandE e (f i)) n else 0) n := sumI_congr fun i hi => by
    unfold bandsE
    split
    · rename_i h0; subst h0; omega
    · omega
  rw [h, sumI_add, sumI_first _ hn]
  omega
theorem bandsE_bd {e : Int} {f : Nat → Int} {n : Nat} (he : 0 ≤ e) (he2 : e ≤ 10000000000000) (hn : 0 < n) (hf : ∀ i, i < n → 0 ≤ f i ∧ f i ≤ 1000) (hs : sumI f n = 1000) {i : Nat} (hi : i < n) : 0 ≤ bandsE e f n i ∧ bandsE e f n i ≤ 10000000000000 := by
  have hb := fun i hi => bandE_bd he (hf i hi).1
  have hall := bands_sum he (fun i hi => (hf i hi).1) hs
  have hle : bandE e (f 0) ≤ sumI (fun i => bandE e (f i)) n := by
    have : sumI (fun i => if i = 0 then bandE e (f 0) else 0) n ≤ sumI (fun i => bandE e (f i)) n := sumI_le fun i hi => by
      have := hb i hi
      split
      · rename_i h0; subst h0; omega
      · omega
    rw [sumI_first _ hn] at this
    exact this
  unfold bandsE
  have h0 := hb 0 hn
  have h1 := hb i hi
  have h2 := mul_le_of he he2 (hf i hi).1 (hf i hi).2
  split <;> omega

theorem app0 {f g : Nat → List V} : (fun i => if i < 0 then f i else g (i - 0)) = g := by funext i; simp
theorem ints_ok {n : Nat} {g : Nat → List V} (h : IsInts n g) : ∀ i, i < n → ∀ v, v ∈ g i → Pu v ∧ oneC v = true := fun i hi v hv => by
  rw [h.2 i hi, List.mem_singleton] at hv; rw [hv]; exact one_int
theorem ivs_ok {n : Nat} {g : Nat → List V} (h : IsIv n g) : ∀ i, i < n → ∀ v, v ∈ g i → Pu v ∧ oneC v = true := fun i hi v hv => by
  rw [h.2 i hi] at hv; exact ones2 v hv
theorem ones5s {a b c d : Int} {n sz : Nat} {g : Nat → List V} (h : Pu (.sl n sz g)) : ∀ v ∈ [V.int .i64 a, V.int .i64 b, V.int .i64 c, V.int .i64 d, V.sl n sz g], Pu v ∧ oneC v = true := fun v hv => by
  simp only [List.mem_cons, List.not_mem_nil, or_false] at hv
  rcases hv with rfl | rfl | rfl | rfl | rfl <;> first | exact one_int | exact ⟨h, rfl⟩
theorem ones2s {a : Int} {n sz : Nat} {g : Nat → List V} (h : Pu (.sl n sz g)) : ∀ v ∈ [V.int .i64 a, V.sl n sz g], Pu v ∧ oneC v = true := fun v hv => by
  simp only [List.mem_cons, List.not_mem_nil, or_false] at hv
  rcases hv with rfl | rfl <;> first | exact one_int | exact ⟨h, rfl⟩
theorem VEnt.sl' {n sz : Nat} {get get' : Nat → List V} (h : ∀ i, i < n → get i = get' i) : VEnt (.sl n sz get) (.sl n sz get') := VEnt.sl h

/-- Nine numbers: a state, and by how much a receiver is away. -/
def ownedC : Contract := fun _ args =>
  match args with
  | [.agg [.str s, .sl ns zs gs, .int .i64 d0, .int .i64 d1, .int .i64 d2, .int .i64 d3, .int .i64 d4, .int .i64 d5, .int .i64 d6, .int .i64 d7, .int .i64 side, .sl nq zq gq, .sl m zt gt]] =>
    ⟨zs = 1 ∧ zq = 1 ∧ zt = 2 ∧ IsInts ns gs ∧ IsInts nq gq ∧ IsSet m gt ∧ ns ≤ 8 ∧ nq ≤ 8 ∧ m ≤ 6 ∧ (∀ i, i < m → inN gt i 1 ≤ 8), .agg (tyV s ns gs d0 d1 d2 d3 d4 d5 d6 d7 side nq gq m gt), none⟩
  | _ => ⟨False, .top, none⟩
def airCopyC : Contract := fun _ args =>
  match args with
  | [.sl n sz get] => ⟨sz = 5 ∧ IsAir n get ∧ n ≤ 8 ∧ (∀ i, i < n → inN get i 4 ≤ 8), .sl n 5 get, none⟩
  | _ => ⟨False, .top, none⟩
def awayC : Contract := fun _ args =>
  match args with
  | [.agg [.int .i64 x, .int .i64 y, .int .i64 z, .int .i64 hx, .int .i64 hy, .int .i64 p, .int .i64 ax, .int .i64 ay, .int .i64 az], .int .i64 t] =>
    ⟨(-100000 ≤ x ∧ x ≤ 100000) ∧ (-100000 ≤ y ∧ y ≤ 100000) ∧ (-100000 ≤ z ∧ z ≤ 100000) ∧ (-100000 ≤ ax ∧ ax ≤ 100000) ∧ (-100000 ≤ ay ∧ ay ≤ 100000) ∧ (-100000 ≤ az ∧ az ≤ 100000) ∧ 0 ≤ t ∧ t ≤ 2,
      .agg [.int .i64 (x + t * ax), .int .i64 (y + t * ay), .int .i64 (z + t * az)], none⟩
  | _ => ⟨False, .top, none⟩
def fitNum (a : Int) : Bool := decide (-2000 ≤ a) && decide (a ≤ 2000)
/-- What fits. -/
def fitsB (s : List UInt8) (ns : Nat) (gs : Nat → List V) (d : Nat → Int) (side : Int) (nq : Nat) (gq : Nat → List V) (m : Nat) (gt : Nat → List V) (n : Nat) (get : Nat → List V) (x y z hx hy p ax ay az : Int) : Bool :=
  shortB s ns nq m gt && decide (typeE s ns gs d side nq gq m gt = 0) && shortAirB n get && decide (airE n get = 0) && decide (inN get 0 4 = ns) && decide (stateE x y z hx hy p = 0) &&
  fitNum x && fitNum y && fitNum ax && fitNum ay && decide (z ≤ 2000) && decide ((-z).tdiv 2 ≤ az) && decide (az ≤ 2000) && !(decide (ax = 0) && (decide (ay = 0) && decide (az = 0)))
def fitsC : Contract := fun _ args =>
  match args with
  | [.agg [.str s, .sl ns zs gs, .int .i64 d0, .int .i64 d1, .int .i64 d2, .int .i64 d3, .int .i64 d4, .int .i64 d5, .int .i64 d6, .int .i64 d7, .int .i64 side, .sl nq zq gq, .sl m zt gt], .sl n sz get,
     .agg [.int .i64 x, .int .i64 y, .int .i64 z, .int .i64 hx, .int .i64 hy, .int .i64 p, .int .i64 ax, .int .i64 ay, .int .i64 az]] =>
    ⟨zs = 1 ∧ zq = 1 ∧ zt = 2 ∧ IsInts ns gs ∧ IsInts nq gq ∧ IsSet m gt ∧ s.length ≤ 9223372036854775807 ∧ sz = 5 ∧ IsAir n get ∧ inK .i64 z,
      .bool (fitsB s ns gs (dirAt d0 d1 d2 d3 d4 d5 d6 d7) side nq gq m gt n get x y z hx hy p ax ay az), none⟩
  | _ => ⟨False, .top, none⟩
def sameC : Contract := fun _ args =>
  match args with
  | [.sl n sz a, .sl n' sz' b] => ⟨sz = 2 ∧ sz' = 2 ∧ n' = n ∧ IsIv n a ∧ IsIv n b ∧ (∀ i, i < n → cell a i 0 = cell b i 0 ∧ cell a i 1 = cell b i 1), .bool true, none⟩
  | _ => ⟨False, .top, none⟩
/-- What is heard by bands, and what arrives of it. -/
def chimeC : Contract := fun _ args =>
  match args with
  | [.agg [.str s, .sl ns zs gs, .int .i64 d0, .int .i64 d1, .int .i64 d2, .int .i64 d3, .int .i64 d4, .int .i64 d5, .int .i64 d6, .int .i64 d7, .int .i64 side, .sl nq zq gq, .sl m zt gt], .sl n sz get,
     .agg [.int .i64 x, .int .i64 y, .int .i64 z, .int .i64 hx, .int .i64 hy, .int .i64 p], .agg [.int .i64 u, .int .i64 v, .int .i64 w]] =>
    ⟨zs = 1 ∧ zq = 1 ∧ zt = 2 ∧ IsInts ns gs ∧ IsInts nq gq ∧ IsSet m gt ∧ TypeOk s ns gs (dirAt d0 d1 d2 d3 d4 d5 d6 d7) side nq gq m gt ∧ sz = 5 ∧ IsAir n get ∧ airE n get = 0 ∧ inN get 0 4 = ns ∧
      PlaceOk x y z ∧ DirOk hx hy ∧ (1 ≤ p ∧ p ≤ 100) ∧ PlaceOk u v w ∧ PathOk x y z u v w,
      .tup [.sl ns 1 (fun i => [.int .i64 (bandsE (heardE (dirAt d0 d1 d2 d3 d4 d5 d6 d7) side nq gq m gt hx hy p (u - x) (v - y) (w - z)) (intAt gs) ns i)]),
        .sl ns 2 (fun i => [.int .i64 (arrLo (bandsE (heardE (dirAt d0 d1 d2 d3 d4 d5 d6 d7) side nq gq m gt hx hy p (u - x) (v - y) (w - z)) (intAt gs) ns i) (pLo n get x y z u v w i)),
          .int .i64 (arrHi (bandsE (heardE (dirAt d0 d1 d2 d3 d4 d5 d6 d7) side nq gq m gt hx hy p (u - x) (v - y) (w - z)) (intAt gs) ns i) (pHi n get x y z u v w i))]), .bool true], none⟩
  | _ => ⟨False, .top, none⟩
def loudC : Contract := fun _ args =>
  match args with
  | [] => ⟨True, .bool true, none⟩
  | _ => ⟨False, .top, none⟩
def throughC : Contract := fun _ args =>
  match args with
  | [.agg [.str s, .sl ns zs gs, .int .i64 d0, .int .i64 d1, .int .i64 d2, .int .i64 d3, .int .i64 d4, .int .i64 d5, .int .i64 d6, .int .i64 d7, .int .i64 side, .sl nq zq gq, .sl m zt gt], .sl n sz get,
     .agg [.int .i64 x, .int .i64 y, .int .i64 z, .int .i64 hx, .int .i64 hy, .int .i64 p, .int .i64 ax, .int .i64 ay, .int .i64 az]] =>
    ⟨zs = 1 ∧ zq = 1 ∧ zt = 2 ∧ IsInts ns gs ∧ IsInts nq gq ∧ IsSet m gt ∧ s.length ≤ 9223372036854775807 ∧ sz = 5 ∧ IsAir n get ∧ inK .i64 z, .bool true, none⟩
  | _ => ⟨False, .top, none⟩
attribute [go_sem] ownedC airCopyC awayC fitsC sameC chimeC loudC throughC tyV
end Go.Fly
end
section
/- Bounds of steps and transmittances. -/
namespace Go.Fly
open Go

theorem cell_fn0 {k k2 : IntKind} {f g : Nat → Int} {i : Nat} : cell (fun i => [V.int k (f i), V.int k2 (g i)]) i 0 = f i := rfl
theorem cell_fn1 {k k2 : IntKind} {f g : Nat → Int} {i : Nat} : cell (fun i => [V.int k (f i), V.int k2 (g i)]) i 1 = g i := rfl
theorem cast3 : ((3 : Nat) : Int) = 3 := rfl
attribute [go_sem] cell_fn0 cell_fn1 cast3

theorem part_bd {n : Nat} {get : Nat → List V} {z0 z1 flat : Int} {i : Nat} (hz : z0 ≤ z1) : 0 ≤ partE n get z0 z1 flat i ∧ partE n get z0 z1 flat i ≤ byE z0 z1 ∧ 1 ≤ byE z0 z1 := by
  unfold partE byE
  by_cases h : z1 - z0 = 0
  · rw [if_pos h, if_pos h]
    split <;> omega
  · rw [if_neg h, if_neg h]
    have := over_le (bot := botE get i) (top := topE n get i) hz
    omega
theorem step_bd {n : Nat} {get : Nat → List V} {sq z0 z1 flat : Int} (hsq : 0 ≤ sq ∧ sq ≤ 900000000) (hz : z0 ≤ z1) (i : Nat) :
    0 ≤ stepLo n get sq z0 z1 flat i ∧ stepLo n get sq z0 z1 flat i ≤ stepHi n get sq z0 z1 flat i ∧ stepHi n get sq z0 z1 flat i ≤ 301 := by
  obtain ⟨hp0, hpb, hb1⟩ := part_bd (n := n) (get := get) (flat := flat) (i := i) hz
  unfold stepHi stepLo
  generalize partE n get z0 z1 flat i = p at *
  generalize byE z0 z1 = b at *
  have hpp : 0 ≤ p * p := Int.mul_nonneg hp0 hp0
  have hle : p * p ≤ b * b := Int.mul_le_mul hpb hpb hp0 (by omega)
  have hs1 : sq * p * p ≤ 900000000 * (b * b) := by
    rw [Int.mul_assoc]
    exact Int.mul_le_mul hsq.2 hle hpp (by omega)
  have hs0 : 0 ≤ sq * p * p := by rw [Int.mul_assoc]; exact Int.mul_nonneg hsq.1 hpp
  have hbb : 1 ≤ b * b := by
    have := Int.mul_le_mul hb1 hb1 (by omega) (by omega : 0 ≤ b)
    omega
  have hT : 0 < b * b * 100 * 100 := by omega
  have hr0 := rootE_nonneg (sq * p * p) (b * b * 100 * 100)
  have hr := rootE_sq hs0 hT
  have hrb : rootE (sq * p * p) (b * b * 100 * 100) ≤ 300 := by
    generalize rootE (sq * p * p) (b * b * 100 * 100) = r at *
    rcases Int.le_total r 300 with q | q
    · exact q
    · by_cases e : r = 300
      · omega
      · exfalso
        have h1 : 301 * 301 ≤ r * r := Int.mul_le_mul (by omega) (by omega) (by omega) (by omega)
        have h2 : 90601 * (b * b * 100 * 100) ≤ r * r * (b * b * 100 * 100) := Int.mul_le_mul_of_nonneg_right (by omega) (by omega)
        omega
  unfold rootUp
  split <;> omega
theorem pass_le {get : Nat → List V} {hl hh : Nat → Int} {b : Nat} (hst : ∀ i, 0 ≤ hh i ∧ hh i ≤ hl i) : ∀ {n : Nat}, (∀ i, i < n → 0 ≤ cell (inG get i 4) b 0 ∧ cell (inG get i 4) b 0 ≤ cell (inG get i 4) b 1 ∧ cell (inG get i 4) b 1 ≤ 1000) →
    passLo get hl b n ≤ passHi get hh b n
  | 0, _ => by simp [passLo, passHi]
  | n + 1, h => by
    have ih := pass_le (hl := hl) (hh := hh) hst (n := n) fun i hi => h i (by omega)
    have hn := h n (by omega)
    have hb := pass_bd (get := get) (hl := hl) (hh := hh) (b := b) (n := n) fun i hi => by have := h i (by omega); omega
    have hk := hst n
    simp only [passLo, passHi]
    have a := down_le hn.1 (show cell (inG get n 4) b 0 ≤ 1000 by omega) (k := (hh n).toNat) (j := (hl n).toNat) hb.1.1 (by omega)
    have c := down_up hn.1 (k := (hh n).toNat) hb.1.1
    have d := up_mono hn.1 hn.2.1 (k := (hh n).toNat) hb.1.1 ih
    omega
/-- The transmittances of a valid path. -/
theorem p_bd {n : Nat} {get : Nat → List V} {a b c d e f : Int} (hok : AirOk n get) (hp : PathOk a b c d e f) {k : Nat} (hk : k < inN get 0 4) :
    0 ≤ pLo n get a b c d e f k ∧ pLo n get a b c d e f k ≤ pHi n get a b c d e f k ∧ pHi n get a b c d e f k ≤ 1000 := by
  have hsq := sqE_bd hp
  have hst := fun i => step_bd (n := n) (get := get) (flat := c) hsq (show min c f ≤ max c f by omega) i
  have h1 := pass_bd (get := get) (hl := fun i => stepHi n get (sqE a b c d e f) (min c f) (max c f) c i) (hh := fun i => stepLo n get (sqE a b c d e f) (min c f) (max c f) c i) (b := k) (n := n) fun i hi => by
    have := hok.pass i hi k hk; omega
  have h2 := pass_le (get := get) (hl := fun i => stepHi n get (sqE a b c d e f) (min c f) (max c f) c i) (hh := fun i => stepLo n get (sqE a b c d e f) (min c f) (max c f) c i) (b := k) (fun i => ⟨(hst i).1, (hst i).2.1⟩) (n := n) fun i hi => hok.pass i hi k hk
  unfold pLo pHi
  exact ⟨h1.1.1, h2, h1.2.2⟩
end Go.Fly
end
