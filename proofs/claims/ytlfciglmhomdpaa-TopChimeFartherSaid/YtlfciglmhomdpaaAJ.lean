/- Part of a proof: an evaluator of the model's code by abstract values, and plain laws for it. No conditions. -/
import Derived.Test.YtlfciglmhomdpaaAI
set_option linter.unusedSimpArgs false
set_option linter.unusedVariables false
/- Contracts of the sources and of levels. -/
namespace Go.Fly
open Go

theorem dirAt_dropT {d0 d1 d2 d3 d4 d5 d6 d7 : Int} {l : List V} : ∀ {k : Nat}, k < 8 → (List.drop k (V.int .i64 d0 :: V.int .i64 d1 :: V.int .i64 d2 :: V.int .i64 d3 :: V.int .i64 d4 :: V.int .i64 d5 :: V.int .i64 d6 :: V.int .i64 d7 :: l)).head? = some (.int .i64 (dirAt d0 d1 d2 d3 d4 d5 d6 d7 k))
  | 0, _ | 1, _ | 2, _ | 3, _ | 4, _ | 5, _ | 6, _ | 7, _ => rfl
  | n + 8, h => by omega

/-- The check of a valid type. -/
def typeOkC : Contract := fun _ args =>
  match args with
  | [.agg [.str s, .sl ns zs gs, .int .i64 d0, .int .i64 d1, .int .i64 d2, .int .i64 d3, .int .i64 d4, .int .i64 d5, .int .i64 d6, .int .i64 d7, .int .i64 side, .sl nq zq gq, .sl m zt gt]] =>
    ⟨zs = 1 ∧ zq = 1 ∧ zt = 2 ∧ IsInts ns gs ∧ IsInts nq gq ∧ IsSet m gt ∧ TypeOk s ns gs (dirAt d0 d1 d2 d3 d4 d5 d6 d7) side nq gq m gt, .int .i64 0, none⟩
  | _ => ⟨False, .top, none⟩
def floorC : Contract := fun _ args =>
  match args with
  | [.int .i64 num, .int .i64 den] => ⟨0 < den ∧ -1000000000000000 ≤ num ∧ num ≤ 1000000000000000, .int .i64 (num / den), none⟩
  | _ => ⟨False, .top, none⟩
def betweenC : Contract := fun _ args =>
  match args with
  | [.int .i64 a, .int .i64 b, .int .i64 part, .int .i64 whole] => ⟨0 ≤ part ∧ part ≤ whole ∧ 0 < whole ∧ whole ≤ 1000 ∧ 0 ≤ a ∧ a ≤ 100000000 ∧ 0 ≤ b ∧ b ≤ 100000000, .int .i64 (betweenE a b part whole), none⟩
  | _ => ⟨False, .top, none⟩
def geqC : Contract := fun _ args =>
  match args with
  | [.agg [.int .i64 p, .sl n sz g], .cptr [.int .i64 power]] => ⟨sz = 1 ∧ IsInts n g, .bool (decide (power ≤ p)), none⟩
  | _ => ⟨False, .top, none⟩
def idxC (g1 : FuncId) : Contract := fun _ args =>
  match args with
  | [.sl n sz get, .fn (.func g) [] [.cptr [.int .i64 power]]] => ⟨sz = 2 ∧ IsSet n get ∧ g = g1, .int .i64 (idxF (fun j => decide (power ≤ cell get j 0)) 0 n), none⟩
  | _ => ⟨False, .top, none⟩
def emC : Contract := fun _ args =>
  match args with
  | [.agg [.str s, .sl ns zs gs, .int .i64 d0, .int .i64 d1, .int .i64 d2, .int .i64 d3, .int .i64 d4, .int .i64 d5, .int .i64 d6, .int .i64 d7, .int .i64 side, .sl nq zq gq, .sl m zt gt], .int .i64 power, .int .i64 sq] =>
    ⟨zs = 1 ∧ zq = 1 ∧ zt = 2 ∧ IsInts ns gs ∧ IsInts nq gq ∧ IsSet m gt ∧ TypeOk s ns gs (dirAt d0 d1 d2 d3 d4 d5 d6 d7) side nq gq m gt ∧ 0 ≤ power ∧ power ≤ 100, .int .i64 (emE nq gq m gt power sq), none⟩
  | _ => ⟨False, .top, none⟩
def lessC : Contract := fun _ args =>
  match args with
  | [.agg [.int .i64 x, .int .i64 y, .int .i64 z], .agg [.int .i64 u, .int .i64 v, .int .i64 w]] =>
    ⟨(-1000000 ≤ x ∧ x ≤ 1000000) ∧ (-1000000 ≤ y ∧ y ≤ 1000000) ∧ (-1000000 ≤ z ∧ z ≤ 1000000) ∧ (-1000000 ≤ u ∧ u ≤ 1000000) ∧ (-1000000 ≤ v ∧ v ≤ 1000000) ∧ (-1000000 ≤ w ∧ w ≤ 1000000), .agg [.int .i64 (x - u), .int .i64 (y - v), .int .i64 (z - w)], none⟩
  | _ => ⟨False, .top, none⟩
def squares2C : Contract := fun _ args =>
  match args with
  | [.agg [.int .i64 x, .int .i64 y, .int .i64 z]] =>
    ⟨(-10000000 ≤ x ∧ x ≤ 10000000) ∧ (-10000000 ≤ y ∧ y ≤ 10000000) ∧ (-10000000 ≤ z ∧ z ≤ 10000000), .agg [.int .i64 (x * x + y * y), .int .i64 (z * z)], none⟩
  | _ => ⟨False, .top, none⟩
def sectorC : Contract := fun _ args =>
  match args with
  | [.agg [.int .i64 hx, .int .i64 hy], .agg [.int .i64 x, .int .i64 y]] =>
    ⟨(-1000000 ≤ hx ∧ hx ≤ 1000000) ∧ (-1000000 ≤ hy ∧ hy ≤ 1000000) ∧ (-1000000 ≤ x ∧ x ≤ 1000000) ∧ (-1000000 ≤ y ∧ y ≤ 1000000), .int .i64 (sectorE hx hy x y), none⟩
  | _ => ⟨False, .top, none⟩
/-- A place within its limits. -/
def PlaceOk (x y z : Int) : Prop := (-100000 ≤ x ∧ x ≤ 100000) ∧ (-100000 ≤ y ∧ y ≤ 100000) ∧ 0 ≤ z ∧ z ≤ 20000
def DirOk (x y : Int) : Prop := (-200000 ≤ x ∧ x ≤ 200000) ∧ -200000 ≤ y ∧ y ≤ 200000
def heardC : Contract := fun _ args =>
  match args with
  | [.agg [.str s, .sl ns zs gs, .int .i64 d0, .int .i64 d1, .int .i64 d2, .int .i64 d3, .int .i64 d4, .int .i64 d5, .int .i64 d6, .int .i64 d7, .int .i64 side, .sl nq zq gq, .sl m zt gt],
     .agg [.int .i64 x, .int .i64 y, .int .i64 z, .int .i64 hx, .int .i64 hy, .int .i64 p], .agg [.int .i64 u, .int .i64 v, .int .i64 w]] =>
    ⟨zs = 1 ∧ zq = 1 ∧ zt = 2 ∧ IsInts ns gs ∧ IsInts nq gq ∧ IsSet m gt ∧ TypeOk s ns gs (dirAt d0 d1 d2 d3 d4 d5 d6 d7) side nq gq m gt ∧ PlaceOk x y z ∧ DirOk hx hy ∧ (1 ≤ p ∧ p ≤ 100) ∧ PlaceOk u v w,
      .int .i64 (heardE (dirAt d0 d1 d2 d3 d4 d5 d6 d7) side nq gq m gt hx hy p (u - x) (v - y) (w - z)), none⟩
  | _ => ⟨False, .top, none⟩
/-- The same, with a result for the error. -/
def heard2C : Contract := fun _ args =>
  match args with
  | [.agg [.str s, .sl ns zs gs, .int .i64 d0, .int .i64 d1, .int .i64 d2, .int .i64 d3, .int .i64 d4, .int .i64 d5, .int .i64 d6, .int .i64 d7, .int .i64 side, .sl nq zq gq, .sl m zt gt],
     .agg [.int .i64 x, .int .i64 y, .int .i64 z, .int .i64 hx, .int .i64 hy, .int .i64 p], .agg [.int .i64 u, .int .i64 v, .int .i64 w]] =>
    ⟨zs = 1 ∧ zq = 1 ∧ zt = 2 ∧ IsInts ns gs ∧ IsInts nq gq ∧ IsSet m gt ∧ TypeOk s ns gs (dirAt d0 d1 d2 d3 d4 d5 d6 d7) side nq gq m gt ∧ PlaceOk x y z ∧ DirOk hx hy ∧ (1 ≤ p ∧ p ≤ 100) ∧ PlaceOk u v w,
      .tup [.int .i64 (heardE (dirAt d0 d1 d2 d3 d4 d5 d6 d7) side nq gq m gt hx hy p (u - x) (v - y) (w - z)), .int .i64 0], none⟩
  | _ => ⟨False, .top, none⟩
def bandC : Contract := fun _ args =>
  match args with
  | [.int .i64 n, .cptr [.int .i64 e]] => ⟨0 ≤ n ∧ n ≤ 1000 ∧ 0 ≤ e ∧ e ≤ 10000000000000, .int .i64 (bandE e n), none⟩
  | _ => ⟨False, .top, none⟩
def mapBandC (g1 : FuncId) : Contract := fun rl args =>
  match args with
  | [.sl n sz get, .fn (.func g) [] [.cptr [.int .i64 e]]] => ⟨sz = 1 ∧ IsInts n get ∧ n ≤ 1000000 ∧ g = g1 ∧ (∀ i, i < n → 0 ≤ intAt get i ∧ intAt get i ≤ 1000) ∧ 0 ≤ e ∧ e ≤ 10000000000000, .msl rl 0 n, some (.arr n 1 fun i => [.int .i64 (bandE e (intAt get i))])⟩
  | _ => ⟨False, .top, none⟩
def bandedC : Contract := fun _ args =>
  match args with
  | [.agg [.str s, .sl ns zs gs, .int .i64 d0, .int .i64 d1, .int .i64 d2, .int .i64 d3, .int .i64 d4, .int .i64 d5, .int .i64 d6, .int .i64 d7, .int .i64 side, .sl nq zq gq, .sl m zt gt], .int .i64 e] =>
    ⟨zs = 1 ∧ zq = 1 ∧ zt = 2 ∧ IsInts ns gs ∧ IsInts nq gq ∧ IsSet m gt ∧ TypeOk s ns gs (dirAt d0 d1 d2 d3 d4 d5 d6 d7) side nq gq m gt ∧ 0 ≤ e ∧ e ≤ 10000000000000, .tup [.sl ns 1 (fun i => [.int .i64 (bandsE e (intAt gs) ns i)]), .int .i64 0], none⟩
  | _ => ⟨False, .top, none⟩
def thrC : Contract := fun _ args =>
  match args with
  | [.int .i64 l] => ⟨0 ≤ l ∧ l ≤ 120, .int .i64 (thrE l), none⟩
  | _ => ⟨False, .top, none⟩
def level1C : Contract := fun _ args =>
  match args with
  | [.int .i64 e] => ⟨True, .int .i64 (levelE e), none⟩
  | _ => ⟨False, .top, none⟩
def level2C : Contract := fun _ args =>
  match args with
  | [.int .i64 e] => ⟨0 ≤ e ∧ e ≤ 10000000000000, .tup [.int .i64 (levelE e), .int .i64 0], none⟩
  | _ => ⟨False, .top, none⟩
attribute [go_sem] typeOkC floorC betweenC geqC idxC emC lessC squares2C sectorC heardC heard2C bandC mapBandC bandedC thrC level1C level2C
end Go.Fly
