/- Part of a proof: an evaluator of the model's code by abstract values, and plain laws for it. No conditions. -/
import Derived.Test.YtlfciglmhomdpaaAR
import Derived.Test.YtlfciglmhomdpaaAS
set_option linter.unusedSimpArgs false
set_option linter.unusedVariables false
/- Contracts of the law on what is farther; airs that let less pass, types that are quieter. -/
namespace Go.Fly
open Go

/-- What passes on a path. -/
def passed2C : Contract := fun _ args =>
  match args with
  | [.sl n sz get, .agg [.int .i64 a, .int .i64 b, .int .i64 c, .int .i64 d, .int .i64 e, .int .i64 f]] =>
    ⟨sz = 5 ∧ IsAir n get ∧ airE n get = 0 ∧ PathOk a b c d e f,
      .tup [.sl (inN get 0 4) 2 (fun i => [.int .i64 (pLo n get a b c d e f i), .int .i64 (pHi n get a b c d e f i)]), .int .i64 0], none⟩
  | _ => ⟨False, .top, none⟩
attribute [go_sem] passed2C

/-- By how much a band lets less pass. -/
def byT (get : Nat → List V) (p : Int) (i b : Nat) : Int := (p + 7 * b + i).tmod (cell (inG get i 4) b 0 + 1)
def thR (get : Nat → List V) (p : Int) (i b : Nat) : List V := [.int .i64 (cell (inG get i 4) b 0 - byT get p i b), .int .i64 (cell (inG get i 4) b 1 - byT get p i b)]
def airR (get : Nat → List V) (i b : Nat) : List V := [.int .i64 (cell (inG get i 4) b 0), .int .i64 (cell (inG get i 4) b 1)]
def thG (get : Nat → List V) (p : Int) (i : Nat) : List V :=
  [.int .i64 (cell get i 0), .int .i64 (cell get i 1), .int .i64 (cell get i 2), .int .i64 (cell get i 3), .sl (inN get i 4) 2 (thR get p i)]
/-- An air whose lists are the call's own. -/
def ownRow (get : Nat → List V) (nu : Nat → Loc) (i : Nat) : List V :=
  [.int .i64 (cell get i 0), .int .i64 (cell get i 1), .int .i64 (cell get i 2), .int .i64 (cell get i 3), .msl (nu i) 0 (inN get i 4)]
def quR (gt : Nat → List V) (i k : Nat) : List V := [.int .i64 ((intAt (inG gt i 1) k).tdiv 2)]
def setR (gt : Nat → List V) (i k : Nat) : List V := [.int .i64 (intAt (inG gt i 1) k)]
def quG (gt : Nat → List V) (i : Nat) : List V := [.int .i64 (cell gt i 0), .sl (inN gt i 1) 1 (quR gt i)]
def ownSet (gt : Nat → List V) (nu : Nat → Loc) (i : Nat) : List V := [.int .i64 (cell gt i 0), .msl (nu i) 0 (inN gt i 1)]

theorem tmod_bd {a b : Int} (ha : 0 ≤ a) (hb : 0 < b) : 0 ≤ a.tmod b ∧ a.tmod b < b := ⟨Int.tmod_nonneg b ha, Int.tmod_lt_of_pos a hb⟩
theorem byT_bd {n : Nat} {get : Nat → List V} {p : Int} (hok : AirOk n get) (hp : 0 ≤ p) {i b : Nat} (hi : i < n) (hb : b < inN get 0 4) : 0 ≤ byT get p i b ∧ byT get p i b ≤ cell (inG get i 4) b 0 := by
  have h := hok.pass i hi b hb
  have := tmod_bd (a := p + 7 * b + i) (b := cell (inG get i 4) b 0 + 1) (by omega) (by omega)
  unfold byT
  omega
theorem isAir_th {n : Nat} {get : Nat → List V} {p : Int} (h : IsAir n get) : IsAir n (thG get p) := ⟨h.1, fun i hi => ⟨rfl, (h.2 i hi).2.1, fun b hb => rfl⟩⟩
theorem airE_th {n : Nat} {get : Nat → List V} {p : Int} (h : airE n get = 0) (hp : 0 ≤ p) : airE n (thG get p) = 0 := by
  have hok := airE_ok h
  unfold airE at h ⊢
  have h0 : airE0 n = 0 := airE0_zero.2 hok.cnt
  simp only [h0, ne_eq, not_true_eq_false, if_false] at h ⊢
  rw [firstI_zero] at h ⊢
  intro i hi hi2
  have hl := h i hi hi2
  have hin : i < n := by omega
  have e : layAt (thG get p) i (inN (thG get p) 0 4) = layerE (cell get i 0) (cell get i 1) (cell get i 2) (cell get i 3) (inN get i 4) (thR get p i) (inN get 0 4) := rfl
  have e2 : layAt get i (inN get 0 4) = layerE (cell get i 0) (cell get i 1) (cell get i 2) (cell get i 3) (inN get i 4) (inG get i 4) (inN get 0 4) := rfl
  rw [e]
  rw [e2] at hl
  have hz := layerE_zero hl
  unfold layerE at hl ⊢
  by_cases h1 : layerE1 (cell get i 0) (cell get i 1) (cell get i 2) (cell get i 3) = 0
  · have h2 : layerE2 (inN get i 4) (inN get 0 4) = 0 := layerE2_zero.2 ⟨hz.2.1, hz.2.2.1, hz.2.2.2.1⟩
    simp only [h1, h2, ne_eq, not_true_eq_false, if_false]
    unfold ivsE
    rw [firstI_zero]
    intro b hb hb2
    have hs := hok.same i hin
    have hbd := byT_bd hok hp hin (b := b) (by omega)
    have hps := hok.pass i hin b (by omega)
    have e3 : cell (thR get p i) b 0 = cell (inG get i 4) b 0 - byT get p i b := rfl
    have e4 : cell (thR get p i) b 1 = cell (inG get i 4) b 1 - byT get p i b := rfl
    rw [e3, e4]
    exact ivE_zero.2 (by omega)
  · simp only [ne_eq, h1, not_false_eq_true, if_true] at hl
/-- Layers that let less pass. -/
theorem p_th {n : Nat} {get : Nat → List V} {p a b c d e f : Int} (hok : AirOk n get) (hp0 : 0 ≤ p) (hp : PathOk a b c d e f) {k : Nat} (hk : k < inN get 0 4) :
    pLo n (thG get p) a b c d e f k ≤ pLo n get a b c d e f k ∧ pHi n (thG get p) a b c d e f k ≤ pHi n get a b c d e f k := by
  refine p_thick (get := get) (get' := thG get p) hok hp (fun j => rfl) hk (fun i hi => ?_) (fun i hi => ?_)
  · have h1 := byT_bd hok hp0 hi hk
    have h2 := hok.pass i hi k hk
    have e3 : cell (inG (thG get p) i 4) k 0 = cell (inG get i 4) k 0 - byT get p i k := rfl
    rw [e3]
    omega
  · have h1 := byT_bd hok hp0 hi hk
    have h2 := hok.pass i hi k hk
    have e3 : cell (inG (thG get p) i 4) k 1 = cell (inG get i 4) k 1 - byT get p i k := rfl
    rw [e3]
    omega

theorem isSet_qu {m : Nat} {gt : Nat → List V} (h : IsSet m gt) : IsSet m (quG gt) := ⟨h.1, fun i hi => ⟨rfl, (h.2 i hi).2.1, fun k hk => rfl⟩⟩
theorem half_mono {a b : Int} (h : a ≤ b) (ha : 0 ≤ a) : a.tdiv 2 ≤ b.tdiv 2 := by
  rw [Int.tdiv_eq_ediv_of_nonneg ha, Int.tdiv_eq_ediv_of_nonneg (by omega)]; omega
/-- A type whose energies are halved. -/
theorem typeOk_qu {s : List UInt8} {ns : Nat} {gs : Nat → List V} {d : Nat → Int} {side : Int} {nq : Nat} {gq : Nat → List V} {m : Nat} {gt : Nat → List V} (h : TypeOk s ns gs d side nq gq m gt) : TypeOk s ns gs d side nq gq m (quG gt) := by
  refine ⟨h.name, h.shares, h.dir, h.sideOk, h.squares, h.cnt, fun i hi => ?_⟩
  obtain ⟨g1, g2, g3, g4, g5⟩ := setOk h hi
  rw [setE_zero, setE0_zero]
  have e0 : ∀ j, cell (quG gt) j 0 = cell gt j 0 := fun j => rfl
  have e1 : ∀ j k, intAt (inG (quG gt) j 1) k = (intAt (inG gt j 1) k).tdiv 2 := fun j k => rfl
  have e2 : inN (quG gt) i 1 = inN gt i 1 := rfl
  rw [e0, e0, e2, g3]
  refine ⟨⟨g1, g2, rfl, fun k hk => ?_⟩, fun k hk => ?_⟩
  · have := g4 k hk
    rw [e1, Int.tdiv_eq_ediv_of_nonneg this.1]
    omega
  · have h5 := g5 k hk
    unfold enBad at h5 ⊢
    rw [e1, e1, e1]
    simp only [Bool.or_eq_false_iff, Bool.and_eq_false_iff, decide_eq_false_iff_not] at h5 ⊢
    obtain ⟨a, b⟩ := h5
    refine ⟨?_, ?_⟩
    · rcases a with a | a
      · exact .inl a
      · exact .inr (by have := half_mono (show intAt (inG gt i 1) k ≤ intAt (inG gt i 1) (k - 1) by omega) (g4 k hk).1; omega)
    · rcases b with b | b
      · exact .inl b
      · by_cases hi0 : 0 < i
        · exact .inr (by have := half_mono (show intAt (inG gt (i - 1) 1) k ≤ intAt (inG gt i 1) k by omega) ((setOk h (i := i - 1) (by omega)).2.2.2.1 k hk).1; omega)
        · exact .inl hi0
theorem heard_qu {s : List UInt8} {ns : Nat} {gs : Nat → List V} {d : Nat → Int} {side : Int} {nq : Nat} {gq : Nat → List V} {m : Nat} {gt : Nat → List V} (h : TypeOk s ns gs d side nq gq m gt) (hx hy p x y z : Int) :
    heardE d side nq gq m (quG gt) hx hy p x y z ≤ heardE d side nq gq m gt hx hy p x y z := by
  have hq : 0 < nq := (squaresE_zero.1 h.squares).1.1
  have := heard_le (d := d) (side := side) (nq := nq) (gq := gq) (m := m) (gt := gt) (gt' := quG gt) (hx := hx) (hy := hy) (p := p) (x := x) (y := y) (z := z) (t := 1) (.inl rfl) (fun k hk => (h.dir k hk).1) h.sideOk.1
    (emE_le (nq := nq) (gq := gq) (gt := gt) (gt' := quG gt) h.cnt.1 (fun _ => rfl) (fun i hi => powers_mono h hi) fun i hi => by
      have f : ∀ q : Int, 1 * q * (1 * q) = q * q := fun q => by rw [Int.one_mul]
      rw [f, f, f]
      have g4 := (setOk h hi).2.2.2.1 _ (reachN_lt (g := intAt gq) (sq := x * x + y * y + z * z) hq)
      have e1 : ∀ j k, intAt (inG (quG gt) j 1) k = (intAt (inG gt j 1) k).tdiv 2 := fun j k => rfl
      rw [e1, Int.tdiv_eq_ediv_of_nonneg g4.1]
      omega)
  simpa only [Int.one_mul] using this

/-! ### Lists of lists that are being made -/

theorem row_okN {cells : List V} {sz : Nat} (hl : cells.length = sz) (h : ∀ v ∈ cells, (Pu v ∨ isMsl v = true) ∧ oneC v = true) : ∀ i, i < 1 → ∀ v, v ∈ rowAt cells sz (0 + i) → (Pu v ∨ isMsl v = true) ∧ oneC v = true :=
  fun i hi v hv => by rw [rowOne hl hi] at hv; exact h v hv
theorem ivs_okN {n : Nat} {g : Nat → List V} (h : IsIv n g) : ∀ i, i < n → ∀ v, v ∈ g i → (Pu v ∨ isMsl v = true) ∧ oneC v = true := fun i hi v hv => ⟨.inl (ivs_ok h i hi v hv).1, (ivs_ok h i hi v hv).2⟩
theorem ints_okN {n : Nat} {g : Nat → List V} (h : IsInts n g) : ∀ i, i < n → ∀ v, v ∈ g i → (Pu v ∨ isMsl v = true) ∧ oneC v = true := fun i hi v hv => ⟨.inl (ints_ok h i hi v hv).1, (ints_ok h i hi v hv).2⟩
theorem onesN5 {a b c d : Int} {l : Loc} {m : Nat} : ∀ v ∈ [V.int .i64 a, V.int .i64 b, V.int .i64 c, V.int .i64 d, V.msl l 0 m], (Pu v ∨ isMsl v = true) ∧ oneC v = true := fun v hv => by
  simp only [List.mem_cons, List.not_mem_nil, or_false] at hv
  rcases hv with rfl | rfl | rfl | rfl | rfl
  · exact ⟨.inl (.int _ _), rfl⟩
  · exact ⟨.inl (.int _ _), rfl⟩
  · exact ⟨.inl (.int _ _), rfl⟩
  · exact ⟨.inl (.int _ _), rfl⟩
  · exact ⟨.inr rfl, rfl⟩
theorem onesN2 {a : Int} {l : Loc} {m : Nat} : ∀ v ∈ [V.int .i64 a, V.msl l 0 m], (Pu v ∨ isMsl v = true) ∧ oneC v = true := fun v hv => by
  simp only [List.mem_cons, List.not_mem_nil, or_false] at hv
  rcases hv with rfl | rfl
  · exact ⟨.inl (.int _ _), rfl⟩
  · exact ⟨.inr rfl, rfl⟩
theorem snocN {f f' : Nat → List V} {cells : List V} {sz i j : Nat} (hl : cells.length = sz) (h : f' i = cells) (hf : ∀ k, k < i → f' k = f k) (hj : j < i + 1) : f' j = if j < i then f j else rowAt cells sz (0 + (j - i)) := by
  by_cases e : j < i
  · rw [if_pos e]; exact hf j e
  · obtain rfl : j = i := by omega
    rw [if_neg e, rowOne hl (by omega), h]

structure NA where
  i : Nat
  nu : Nat → Loc
  H : Heap
/-- What is kept: the outer list, at L, of the rows so far; the inner ones; what lay before. -/
structure NInv (L : Loc) (sz : Nat) (row : (Nat → Loc) → Nat → List V) (szI : Nat) (m : Nat → Nat) (g : Nat → Nat → List V) (base : Heap) (cb n ck : Nat) (b : NA) : Prop where
  le : b.i ≤ n
  outer : b.H L = some (.arr b.i sz (row b.nu))
  inner : ∀ j, j < b.i → b.H (b.nu j) = some (.arr (m j) szI (g j))
  lo : ∀ j, j < b.i → cb < (b.nu j).1
  hi : ∀ j, j < b.i → (b.nu j).1 < ck
  ne : ∀ j, j < b.i → b.nu j ≠ L
  inj : ∀ j k, j < b.i → k < b.i → b.nu j = b.nu k → j = k
  base : ∀ l, l.1 ≤ cb → b.H l = base l
  free : ∀ l, ck ≤ l.1 → b.H l = none

theorem NInv.mono {L : Loc} {sz : Nat} {row : (Nat → Loc) → Nat → List V} {szI : Nat} {m : Nat → Nat} {g : Nat → Nat → List V} {base : Heap} {cb n ck ck' : Nat} {b : NA} (h : NInv L sz row szI m g base cb n ck b) (hc : ck ≤ ck') : NInv L sz row szI m g base cb n ck' b :=
  ⟨h.le, h.outer, h.inner, h.lo, fun j hj => Nat.lt_of_lt_of_le (h.hi j hj) hc, h.ne, h.inj, h.base, fun l hl => h.free l (Nat.le_trans hc hl)⟩
/-- Before the first row. -/
theorem NInv.start {L : Loc} {sz : Nat} {row : (Nat → Loc) → Nat → List V} {szI : Nat} {m : Nat → Nat} {g : Nat → Nat → List V} {base : Heap} {cb n ck : Nat} {nu : Nat → Loc} (hL : cb < L.1) (hL2 : L.1 < ck) (hf : ∀ l, cb < l.1 → base l = none) :
    NInv L sz row szI m g base cb n ck ⟨0, nu, updH base L (.arr 0 sz (row nu))⟩ := by
  refine ⟨Nat.zero_le _, updH_same _ _ _, fun j hj => absurd hj (Nat.not_lt_zero _), fun j hj => absurd hj (Nat.not_lt_zero _), fun j hj => absurd hj (Nat.not_lt_zero _), fun j hj => absurd hj (Nat.not_lt_zero _), fun j k hj => absurd hj (Nat.not_lt_zero _), fun l hl => ?_, fun l hl => ?_⟩
  · show updH _ _ _ l = _
    rw [updH_ne (by rintro rfl; omega)]
  · show updH _ _ _ l = _
    rw [updH_ne (by rintro rfl; omega)]
    exact hf l (by omega)
/-- Another object of the call's own changes. -/
theorem NInv.box {L : Loc} {sz : Nat} {row : (Nat → Loc) → Nat → List V} {szI : Nat} {m : Nat → Nat} {g : Nat → Nat → List V} {base : Heap} {cb n ck : Nat} {b : NA} (h : NInv L sz row szI m g base cb n ck b) {l0 : Loc} {o : AObj}
    (h1 : cb < l0.1) (h2 : l0.1 < ck) (h3 : L ≠ l0) (h4 : ∀ j, j < b.i → b.nu j ≠ l0) : NInv L sz row szI m g base cb n ck ⟨b.i, b.nu, updH b.H l0 o⟩ := by
  refine ⟨h.le, ?_, fun j hj => ?_, h.lo, h.hi, h.ne, h.inj, fun l hl => ?_, fun l hl => ?_⟩
  · show updH _ _ _ L = _
    rw [updH_ne h3]
    exact h.outer
  · show updH _ _ _ (b.nu j) = _
    rw [updH_ne (h4 j hj)]
    exact h.inner j hj
  · show updH _ _ _ l = _
    rw [updH_ne (by rintro rfl; omega)]
    exact h.base l hl
  · show updH _ _ _ l = _
    rw [updH_ne (by rintro rfl; omega)]
    exact h.free l hl
/-- The heap behind a round holds what is kept. -/
theorem hp_le2 {hp H : Heap} {l L : Loc} {X Y : AObj} (h1 : ∃ o, hp l = some o ∧ ObjLe o X) (h2 : ∃ o, hp L = some o ∧ ObjLe o Y) (h3 : ∀ l' o, l' ≠ l → l' ≠ L → H l' = some o → hp l' = some o) : HpLe hp (updH (updH H l X) L Y) := by
  intro l' o' h'
  by_cases e : l' = L
  · subst e; rw [updH_same] at h'; cases h'; exact h2
  · rw [updH_ne e] at h'
    by_cases e2 : l' = l
    · subst e2; rw [updH_same] at h'; cases h'; exact h1
    · rw [updH_ne e2] at h'
      exact ⟨o', h3 l' o' e2 e h', ObjLe.refl _⟩

theorem hp_le3 {hp H : Heap} {l1 l2 l3 : Loc} {A B C : AObj} (h1 : ∃ o, hp l1 = some o ∧ ObjLe o A) (h2 : ∃ o, hp l2 = some o ∧ ObjLe o B) (h3 : ∃ o, hp l3 = some o ∧ ObjLe o C) (h : ∀ l' o, l' ≠ l1 → l' ≠ l2 → l' ≠ l3 → H l' = some o → hp l' = some o) :
    HpLe hp (updH (updH (updH H l1 A) l2 B) l3 C) := by
  intro l' o' h'
  by_cases e3 : l' = l3
  · subst e3; rw [updH_same] at h'; cases h'; exact h3
  · rw [updH_ne e3] at h'
    by_cases e2 : l' = l2
    · subst e2; rw [updH_same] at h'; cases h'; exact h2
    · rw [updH_ne e2] at h'
      by_cases e1 : l' = l1
      · subst e1; rw [updH_same] at h'; cases h'; exact h1
      · rw [updH_ne e1] at h'
        exact ⟨o', h l' o' e1 e2 e3 h', ObjLe.refl _⟩

def updN (nu : Nat → Loc) (i : Nat) (l : Loc) : Nat → Loc := fun j => if j = i then l else nu j
theorem updN_same {nu : Nat → Loc} {i : Nat} {l : Loc} : updN nu i l i = l := if_pos rfl
theorem updN_ne {nu : Nat → Loc} {i j : Nat} {l : Loc} (h : j ≠ i) : updN nu i l j = nu j := if_neg h
/-- One row more. -/
theorem NInv.snoc {L : Loc} {sz : Nat} {row : (Nat → Loc) → Nat → List V} {szI : Nat} {m : Nat → Nat} {g : Nat → Nat → List V} {base : Heap} {cb n ck ck' : Nat} {b : NA} (h : NInv L sz row szI m g base cb n ck b) {l : Loc}
    (hin : b.i < n) (hl : ck ≤ l.1) (hl2 : l.1 < ck') (hL : cb < L.1) (hL2 : L.1 < ck) (hrow : ∀ nu nu' j, nu j = nu' j → row nu j = row nu' j) :
    NInv L sz row szI m g base cb n ck' ⟨b.i + 1, updN b.nu b.i l, updH (updH b.H l (.arr (m b.i) szI (g b.i))) L (.arr (b.i + 1) sz (row (updN b.nu b.i l)))⟩ := by
  have hcb : cb < l.1 := by omega
  have hlL : l ≠ L := fun e => by subst e; omega
  have hnl : ∀ j, j < b.i → b.nu j ≠ l := fun j hj e => by have := h.hi j hj; rw [e] at this; omega
  have key : ∀ j, j < b.i + 1 → (j < b.i ∧ updN b.nu b.i l j = b.nu j) ∨ (j = b.i ∧ updN b.nu b.i l j = l) := fun j hj => by
    by_cases e : j = b.i
    · exact .inr ⟨e, by subst e; exact updN_same⟩
    · exact .inl ⟨by omega, updN_ne e⟩
  refine ⟨Nat.succ_le_of_lt hin, updH_same _ _ _, fun j hj => ?_, fun j hj => ?_, fun j hj => ?_, fun j hj => ?_, fun j k hj hk e => ?_, fun l' hl' => ?_, fun l' hl' => ?_⟩
  · rcases key j hj with ⟨h1, h2⟩ | ⟨rfl, h2⟩
    · show updH _ _ _ (updN b.nu b.i l j) = _
      rw [h2, updH_ne (h.ne j h1), updH_ne (hnl j h1)]
      exact h.inner j h1
    · show updH _ _ _ (updN b.nu b.i l b.i) = _
      rw [h2, updH_ne hlL, updH_same]
  · show cb < (updN b.nu b.i l j).1
    rcases key j hj with ⟨h1, h2⟩ | ⟨rfl, h2⟩ <;> rw [h2]
    · exact h.lo j h1
    · exact hcb
  · show (updN b.nu b.i l j).1 < ck'
    rcases key j hj with ⟨h1, h2⟩ | ⟨rfl, h2⟩ <;> rw [h2]
    · have := h.hi j h1; omega
    · exact hl2
  · show updN b.nu b.i l j ≠ L
    rcases key j hj with ⟨h1, h2⟩ | ⟨rfl, h2⟩ <;> rw [h2]
    · exact h.ne j h1
    · exact hlL
  · have e' : updN b.nu b.i l j = updN b.nu b.i l k := e
    rcases key j hj with ⟨h1, h2⟩ | ⟨rfl, h2⟩ <;> rcases key k hk with ⟨h3, h4⟩ | ⟨rfl, h4⟩ <;> first | rw [h2, h4] at e' | skip
    · exact h.inj j k h1 h3 e'
    · exact absurd e' (hnl j h1)
    · exact absurd e'.symm (hnl k h3)
    · rfl
  · show updH _ _ _ l' = _
    rw [updH_ne (by rintro rfl; omega), updH_ne (by rintro rfl; omega)]
    exact h.base l' hl'
  · show updH _ _ _ l' = _
    rw [updH_ne (by rintro rfl; omega), updH_ne (by rintro rfl; omega)]
    exact h.free l' (by omega)

/-! ### Lists of lists that are written, and read out -/

theorem frzLe.refl {hp : Heap} : ∀ {l : List V}, frzLe hp l l
  | [] => trivial
  | _ :: l => ⟨.inr (.inl rfl), frzLe.refl (l := l)⟩
theorem frzLe.set {hp : Heap} {u v' : V} : ∀ {l l' : List V} {d : Nat}, frzLe hp l l' → l[d]? = some u → VEnt (frz 5 hp u) v' → frzLe hp l (l'.set d v')
  | [], [], d, h, hd, _ => by simp at hd
  | v :: l, w :: l', 0, h, hd, hv => by
    simp only [List.getElem?_cons_zero, Option.some.injEq] at hd
    subst hd
    exact ⟨.inr (.inr hv), h.2⟩
  | v :: l, w :: l', d + 1, h, hd, hv => ⟨h.1, frzLe.set h.2 (by simpa using hd) hv⟩
  | [], _ :: _, _, h, _, _ => h.elim
  | _ :: _, [], _, h, _, _ => h.elim

theorem frzM {n : Nat} {hp : Heap} {l : Loc} {len m sz : Nat} {get : Nat → List V} (h : hp l = some (.arr m sz get)) (hm : len = m) : frz (n + 1) hp (.msl l 0 len) = .sl len sz (fun i => frzRow (frz n hp) (get i)) := by
  have hnp : ¬ Pu (.msl l 0 len) := fun q => by cases q
  simp only [frz, if_neg hnp, h, Nat.zero_add, if_pos hm]
theorem frzI {n : Nat} {hp : Heap} {k : IntKind} {a : Int} : frz (n + 1) hp (.int k a) = .int k a := frz_pu (.int _ _)
/-- A row of a list that is being written. -/
def mixR (f g : Nat → List V) (b : Nat) (c : Nat) : List V := if c < b then f c else g c
theorem mixR_at {f g : Nat → List V} {b : Nat} : mixR f g b b = g b := if_neg (Nat.lt_irrefl b)
theorem mixR_zero {f g : Nat → List V} : mixR f g 0 = g := funext fun c => if_neg (Nat.not_lt_zero c)
theorem mixR_all {f g : Nat → List V} {m c : Nat} (h : c < m) : mixR f g m c = f c := if_pos h

theorem frz_air {H : Heap} {L : Loc} {n : Nat} {get : Nat → List V} {nu : Nat → Loc} {p : Int} (hL : H L = some (.arr n 5 (ownRow get nu))) (hN : ∀ j, j < n → H (nu j) = some (.arr (inN get j 4) 2 (thR get p j))) : VEnt (frz 5 H (.msl L 0 n)) (.sl n 5 (thG get p)) := by
  rw [frzM hL rfl]
  refine VEnt.sl fun i hi => ?_
  have hnp : ¬ ∀ v ∈ ownRow get nu i, Pu v := fun q => by
    have := q (.msl (nu i) 0 (inN get i 4)) (by simp [ownRow])
    cases this
  unfold frzRow
  rw [if_neg hnp]
  simp only [ownRow, List.map_cons, List.map_nil, frzI, frzM (hN i hi) rfl, thG]
  have : (fun c => frzRow (frz 3 H) (thR get p i c)) = thR get p i := funext fun c => frzRow_pu fun v hv => (ones2 v hv).1
  rw [this]
/-- A box whose last cell names a list of settings of the call's own. -/
theorem frz_quiet {H : Heap} {L l : Loc} {m : Nat} {gt : Nat → List V} {nu : Nat → Loc} {cs : List V} (hl : H l = some (.cells (cs ++ [.msl L 0 m]))) (hcs : ∀ v ∈ cs, Pu v) (hL : H L = some (.arr m 2 (ownSet gt nu))) (hN : ∀ j, j < m → H (nu j) = some (.arr (inN gt j 1) 1 (quR gt j))) :
    VEnt (frz 5 H (.ptr l 0)) (.cptr (cs ++ [.sl m 2 (quG gt)])) := by
  have hnp : ¬ Pu (.ptr l 0) := fun q => by cases q
  have hq : VEnt (frz 4 H (.msl L 0 m)) (.sl m 2 (quG gt)) := by
    rw [frzM hL rfl]
    refine VEnt.sl fun i hi => ?_
    have hnp : ¬ ∀ v ∈ ownSet gt nu i, Pu v := fun q => by
      have := q (.msl (nu i) 0 (inN gt i 1)) (by simp [ownSet])
      cases this
    unfold frzRow
    rw [if_neg hnp]
    simp only [ownSet, List.map_cons, List.map_nil, frzI, frzM (hN i hi) rfl, quG]
    have : (fun c => frzRow (frz 2 H) (quR gt i c)) = quR gt i := funext fun c => frzRow_pu fun v hv => (ones1 v hv).1
    rw [this]
  have e : ∀ X, frz 4 H (.msl L 0 m) = X → frz 5 H (.ptr l 0) = .cptr (cs ++ [X]) := by
    intro X hX
    have h1 : cs.map (frz 4 H) = cs := (List.map_congr_left fun v hv => frz_pu (hcs v hv)).trans (List.map_id cs)
    unfold frz
    rw [if_neg hnp]
    simp only [hl, List.drop_zero, List.map_append, List.map_cons, List.map_nil, hX, h1]
  rw [e _ rfl]
  intro k cv h
  cases h with
  | cptr _ b off x hM hb hp hc h =>
    have hR : ∀ (j : Nat) (v : V), (cs ++ [V.sl m 2 (quG gt)])[j]? = some v → ∃ u, (cs ++ [frz 4 H (.msl L 0 m)])[j]? = some u ∧ VEnt u v := fun j v hv => by
      by_cases hj : j < cs.length
      · rw [List.getElem?_append_left hj] at hv ⊢
        exact ⟨v, hv, VEnt.refl v⟩
      · rw [List.getElem?_append_right (by omega)] at hv ⊢
        cases hk : j - cs.length with
        | zero =>
          rw [hk] at hv
          simp only [List.getElem?_cons_zero, Option.some.injEq] at hv
          subst hv
          exact ⟨_, by first | rfl | (rw [hk]; rfl), hq⟩
        | succ q => rw [hk] at hv; simp at hv
    refine .cptr _ b off x hM hb (.cptr _ fun j v hv => ?_) (fun j hj => hc j (by simpa using hj)) fun j v hv => ?_
    · by_cases hj : j < cs.length
      · rw [List.getElem?_append_left hj] at hv
        exact hcs v (List.mem_of_getElem? hv)
      · rw [List.getElem?_append_right (by omega)] at hv
        cases hk : j - cs.length with
        | zero =>
          rw [hk] at hv
          simp only [List.getElem?_cons_zero, Option.some.injEq] at hv
          subst hv
          exact .sl _ _ _ fun i j v hi hv => by
            rcases j with _ | _ | j
            · simp [quG] at hv; subst hv; exact .int _ _
            · simp [quG] at hv; subst hv
              exact .sl _ _ _ fun i j v hi hv => by
                rcases j with _ | j
                · simp [quR] at hv; subst hv; exact .int _ _
                · simp [quR] at hv
            · simp [quG] at hv
        | succ q => rw [hk] at hv; simp at hv
    · obtain ⟨u, h1, h2⟩ := hR j v hv
      exact h2 _ _ (h j u h1)
theorem mixR_succ {f g : Nat → List V} {k c : Nat} : mixR f g (k + 1) c = if c = k then f k else mixR f g k c := by
  unfold mixR
  by_cases e : c = k
  · subst e; rw [if_pos (Nat.lt_succ_self c), if_pos rfl]
  · rw [if_neg e]
    by_cases h : c < k
    · rw [if_pos h, if_pos (by omega)]
    · rw [if_neg h, if_neg (by omega)]
theorem HpLe.same {hp : Heap} {l : Loc} {a b : AObj} (h : ObjLe a b) : HpLe (updH hp l a) (updH hp l b) := by
  intro l' o' h'
  by_cases e : l' = l
  · subst e
    rw [updH_same] at h' ⊢
    cases h'
    exact ⟨a, rfl, h⟩
  · rw [updH_ne e] at h' ⊢
    exact ⟨o', h', ObjLe.refl _⟩
end Go.Fly
