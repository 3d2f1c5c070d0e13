/- Part of a proof: an evaluator of the model's code by abstract values, and plain laws for it. No conditions. -/
import Derived.Test.YtfpoimbidpojnaaGreatDoorAE
set_option linter.unusedSimpArgs false
set_option linter.unusedVariables false
/- Contracts of airs and types: errors. -/
namespace Go.Fly
open Go

theorem rowOne {cells : List V} {sz i : Nat} (h : cells.length = sz) (hi : i < 1) : rowAt cells sz (0 + i) = cells := by
  obtain rfl : i = 0 := by omega
  simp [rowAt, ← h]
theorem snoc {f : Nat → List V} {cells : List V} {sz i j : Nat} (hl : cells.length = sz) (h : f i = cells) (hj : j < i + 1) : f j = if j < i then f j else rowAt cells sz (0 + (j - i)) := by
  by_cases e : j < i
  · rw [if_pos e]
  · obtain rfl : j = i := by omega
    rw [if_neg e, rowOne hl (by omega), h]
theorem row_ok {cells : List V} {sz : Nat} (hl : cells.length = sz) (h : ∀ v ∈ cells, Pu v ∧ oneC v = true) : ∀ i, i < 1 → ∀ v, v ∈ rowAt cells sz (0 + i) → (Pu v ∨ isMsl v = true) ∧ oneC v = true :=
  fun i hi v hv => by rw [rowOne hl hi] at hv; exact ⟨.inl (h v hv).1, (h v hv).2⟩
theorem one_int {k : IntKind} {n : Int} : Pu (.int k n) ∧ oneC (.int k n) = true := ⟨.int _ _, rfl⟩
theorem ones1 {k : IntKind} {n : Int} : ∀ v ∈ [V.int k n], Pu v ∧ oneC v = true := fun v hv => by rw [List.mem_singleton.1 hv]; exact one_int
theorem ones2 {k : IntKind} {n m : Int} : ∀ v ∈ [V.int k n, V.int k m], Pu v ∧ oneC v = true := fun v hv => by
  simp only [List.mem_cons, List.not_mem_nil, or_false] at hv
  rcases hv with rfl | rfl <;> exact one_int
theorem HpLe.arr1 {hp : Heap} {l : Loc} {n n' sz sz' : Nat} {get get' : Nat → List V} (h : hp l = some (.arr n sz get)) (hn : n = n') (hs : sz = sz') (hg : ∀ i, i < n → get' i = get i) : HpLe hp (updH (fun _ => Option.none) l (.arr n' sz' get')) :=
  HpLe.upd HpLe.none ⟨_, h, hn, hs, hg⟩

/-- A number and a captured limit. -/
def capRangeC : Contract := fun _ args =>
  match args with
  | [.int .i64 n, .cptr [.int .i64 most]] => ⟨True, .int .i64 (rng n 0 most), none⟩
  | _ => ⟨False, .top, none⟩
def mapIvC (g1 g2 : FuncId) : Contract := fun _ args =>
  match args with
  | [.sl n sz get, .fn (.func g) [] []] => ⟨sz = 2 ∧ IsIv n get ∧ n ≤ 1000000 ∧ (g = g1 ∨ g = g2), .sl n 1 (fun i => [.int .i64 (ivE (cell get i 0) (cell get i 1) (if g = g1 then 1000 else 10000000000000))]), none⟩
  | _ => ⟨False, .top, none⟩
def mapIntC (g1 : FuncId) : Contract := fun _ args =>
  match args with
  | [.sl n sz get, .fn (.func g) [] [.cptr [.int .i64 most]]] => ⟨sz = 1 ∧ IsInts n get ∧ n ≤ 1000000 ∧ g = g1, .sl n 1 (fun i => [.int .i64 (rng (intAt get i) 0 most)]), none⟩
  | _ => ⟨False, .top, none⟩
def layerE1 (th sp wx wy : Int) : Int := firstL [rng th 1 2000, rng sp 1 2000, rng wx (-100) 100, rng wy (-100) 100]
def layerE2 (m : Nat) (bands : Int) : Int := firstL [err (decide ((m : Int) = 0)) 12, err (decide (8 < (m : Int))) 5, err (!decide ((m : Int) = bands)) 2]
theorem layerE2_zero {m : Nat} {bands : Int} : layerE2 m bands = 0 ↔ 0 < m ∧ m ≤ 8 ∧ (m : Int) = bands := by
  unfold layerE2
  rw [firstL_zero]
  simp only [List.mem_cons, List.not_mem_nil, or_false, forall_eq_or_imp, forall_eq, err_zero (show (12 : Int) ≠ 0 by decide), err_zero (show (5 : Int) ≠ 0 by decide), err_zero (show (2 : Int) ≠ 0 by decide), decide_eq_false_iff_not, Bool.not_eq_false', decide_eq_true_eq]
  omega
def ivsE (m : Nat) (g : Nat → List V) (most : Int) : Int := firstI (fun i => ivE (cell g i 0) (cell g i 1) most) 0 m
def layerE (th sp wx wy : Int) (m : Nat) (g : Nat → List V) (bands : Int) : Int :=
  if layerE1 th sp wx wy ≠ 0 then layerE1 th sp wx wy else if layerE2 m bands ≠ 0 then layerE2 m bands else ivsE m g 1000
def layerE3 (th sp wx wy : Int) (m : Nat) (bands : Int) : Int :=
  firstL [rng th 1 2000, rng sp 1 2000, rng wx (-100) 100, rng wy (-100) 100, err (decide ((m : Int) = 0)) 12, err (decide (8 < (m : Int))) 5, err (!decide ((m : Int) = bands)) 2]
theorem firstL_append (l l' : List Int) : firstL (l ++ l') = if firstL l ≠ 0 then firstL l else firstL l' := by
  induction l with
  | nil => simp [firstL]
  | cons x l ih =>
    simp only [List.cons_append, firstL, ih]
    by_cases h : x = 0 <;> simp [h]
theorem layerE_alt (th sp wx wy : Int) (m : Nat) (g : Nat → List V) (bands : Int) : layerE th sp wx wy m g bands = if layerE3 th sp wx wy m bands ≠ 0 then layerE3 th sp wx wy m bands else ivsE m g 1000 := by
  have h : layerE3 th sp wx wy m bands = if layerE1 th sp wx wy ≠ 0 then layerE1 th sp wx wy else layerE2 m bands := firstL_append [_, _, _, _] [_, _, _]
  unfold layerE
  rw [h]
  by_cases h1 : layerE1 th sp wx wy = 0 <;> simp [h1]
def layerC : Contract := fun _ args =>
  match args with
  | [.agg [.int .i64 th, .int .i64 sp, .int .i64 wx, .int .i64 wy, .sl m sz g], .int .i64 bands] => ⟨sz = 2 ∧ IsIv m g, .int .i64 (layerE th sp wx wy m g bands), none⟩
  | _ => ⟨False, .top, none⟩
def capLayerC : Contract := fun _ args =>
  match args with
  | [.agg [.int .i64 th, .int .i64 sp, .int .i64 wx, .int .i64 wy, .sl m sz g], .cptr [.sl n sz' get]] =>
    ⟨sz = 2 ∧ IsIv m g ∧ sz' = 5 ∧ IsAir n get ∧ 0 < n, .int .i64 (layerE th sp wx wy m g (inN get 0 4)), none⟩
  | _ => ⟨False, .top, none⟩
def layAt (get : Nat → List V) (i : Nat) (bands : Int) : Int := layerE (cell get i 0) (cell get i 1) (cell get i 2) (cell get i 3) (inN get i 4) (inG get i 4) bands
def mapLayerC (g1 : FuncId) : Contract := fun _ args =>
  match args with
  | [.sl n sz get, .fn (.func g) [] [.cptr [.sl n' sz' get']]] => ⟨sz = 5 ∧ IsAir n get ∧ n ≤ 1000000 ∧ g = g1 ∧ sz' = 5 ∧ IsAir n' get' ∧ 0 < n', .sl n 1 (fun i => [.int .i64 (layAt get i (inN get' 0 4))]), none⟩
  | _ => ⟨False, .top, none⟩
def airE0 (n : Nat) : Int := firstL [err (decide ((n : Int) = 0)) 12, err (decide (8 < (n : Int))) 5]
theorem airE0_zero {n : Nat} : airE0 n = 0 ↔ 0 < n ∧ n ≤ 8 := by
  unfold airE0
  rw [firstL_zero]
  simp only [List.mem_cons, List.not_mem_nil, or_false, forall_eq_or_imp, forall_eq, err_zero (show (12 : Int) ≠ 0 by decide), err_zero (show (5 : Int) ≠ 0 by decide), decide_eq_false_iff_not]
  omega
def airE (n : Nat) (get : Nat → List V) : Int := if airE0 n ≠ 0 then airE0 n else firstI (fun i => layAt get i (inN get 0 4)) 0 n
def airC : Contract := fun _ args =>
  match args with
  | [.sl n sz get] => ⟨sz = 5 ∧ IsAir n get, .int .i64 (airE n get), none⟩
  | _ => ⟨False, .top, none⟩
def pathE (a b c d e f : Int) : Int := firstL [pointE 10000 10000 a b c, pointE 10000 10000 d e f, err (decide (a = d) && (decide (b = e) && decide (c = f))) 6]
def pathC : Contract := fun _ args =>
  match args with
  | [.agg [.int .i64 a, .int .i64 b, .int .i64 c, .int .i64 d, .int .i64 e, .int .i64 f]] => ⟨True, .int .i64 (pathE a b c d e f), none⟩
  | _ => ⟨False, .top, none⟩
def checkE (n : Nat) (get : Nat → List V) (a b c d e f : Int) : Int := firstL [airE n get, pathE a b c d e f]
def checkC : Contract := fun _ args =>
  match args with
  | [.sl n sz get, .agg [.int .i64 a, .int .i64 b, .int .i64 c, .int .i64 d, .int .i64 e, .int .i64 f]] => ⟨sz = 5 ∧ IsAir n get, .int .i64 (checkE n get a b c d e f), none⟩
  | _ => ⟨False, .top, none⟩
def rngs (n : Nat) (get : Nat → List V) (a b : Int) : Int := firstI (fun i => rng (intAt get i) a b) 0 n
def energiesE (n : Nat) (get : Nat → List V) (bands most : Int) : Int := firstL [err (!decide ((n : Int) = bands)) 2, rngs n get 0 most]
def energiesC : Contract := fun _ args =>
  match args with
  | [.sl n sz get, .int .i64 bands, .int .i64 most] => ⟨sz = 1 ∧ IsInts n get ∧ n ≤ 1000000, .int .i64 (energiesE n get bands most), none⟩
  | _ => ⟨False, .top, none⟩
def sumI (f : Nat → Int) : Nat → Int
  | 0 => 0
  | n + 1 => sumI f n + f n
theorem sumI_bd {f : Nat → Int} {a b : Int} : ∀ {n : Nat}, (∀ i, i < n → a ≤ f i ∧ f i ≤ b) → a * n ≤ sumI f n ∧ sumI f n ≤ b * n
  | 0, _ => by simp [sumI]
  | n + 1, h => by
    have h1 := sumI_bd (n := n) fun i hi => h i (by omega)
    have h2 := h n (by omega)
    simp only [sumI, Int.natCast_add, Int.natCast_one, Int.mul_add, Int.mul_one]; omega
attribute [go_sem] capRangeC mapIvC mapIntC layerC capLayerC mapLayerC airC pathC checkC energiesC
end Go.Fly
