/- Part of a proof: an evaluator of the model's code by abstract values, and plain laws for it. No conditions. -/
import Derived.Test.YtmlknpghkclffaaGreatDoorAO
import Derived.Test.YtmlknpghkclffaaGreatDoorAG
set_option linter.unusedSimpArgs false
set_option linter.unusedVariables false
/- What arrives, and what was emitted, at any input. -/
namespace Go.Fly
open Go
theorem q_bd {n : Nat} {get : Nat → List V} {sq z0 z1 y0 y1 flat : Int} (hok : AirOk n get) (hsq : 0 ≤ sq ∧ sq ≤ 1200000000) (hz : z0 ≤ z1) (hy : y0 ≤ y1) {k : Nat} (hk : k < inN get 0 4) :
    0 ≤ qLo n get sq z0 z1 y0 y1 flat k ∧ qLo n get sq z0 z1 y0 y1 flat k ≤ qHi n get sq z0 z1 y0 y1 flat k ∧ qHi n get sq z0 z1 y0 y1 flat k ≤ 1000 := by
  have hst := fun i => stG_bd (n := n) (get := get) (flat := flat) hsq hz hy i
  have h1 := pass_bd (get := get) (hl := fun i => stHi n get sq z0 z1 y0 y1 flat i) (hh := fun i => stLo n get sq z0 z1 y0 y1 flat i) (b := k) (n := n) fun i hi => by
    have := hok.pass i hi k hk; omega
  have h2 := pass_le (get := get) (hl := fun i => stHi n get sq z0 z1 y0 y1 flat i) (hh := fun i => stLo n get sq z0 z1 y0 y1 flat i) (b := k) (fun i => ⟨(hst i).1, (hst i).2.1⟩) (n := n) fun i hi => hok.pass i hi k hk
  unfold qLo qHi
  exact ⟨h1.1.1, h2, h1.2.2⟩
/-- The transmittances of a straight path. -/
def dLo (n : Nat) (get : Nat → List V) (a b c d e f : Int) (k : Nat) : Int := qLo n get (sqE a b c d e f) (min c f) (max c f) 0 0 c k
def dHi (n : Nat) (get : Nat → List V) (a b c d e f : Int) (k : Nat) : Int := qHi n get (sqE a b c d e f) (min c f) (max c f) 0 0 c k
theorem d_bd {n : Nat} {get : Nat → List V} {a b c d e f : Int} (hok : AirOk n get) (hp : PathOk a b c d e f) {k : Nat} (hk : k < inN get 0 4) :
    0 ≤ dLo n get a b c d e f k ∧ dLo n get a b c d e f k ≤ dHi n get a b c d e f k ∧ dHi n get a b c d e f k ≤ 1000 := by
  have hsq := sqE_bd hp
  exact q_bd hok ⟨hsq.1, by omega⟩ (by omega) (Int.le_refl 0) hk
def arr3E (n : Nat) (get : Nat → List V) (a b c d e f : Int) (n' : Nat) (en : Nat → List V) : Int :=
  if checkE n get a b c d e f ≠ 0 then checkE n get a b c d e f else energiesE n' en (inN get 0 4) 10000000000000
def arr3C : Contract := fun _ args =>
  match args with
  | [.sl n sz get, .agg [.int .i64 a, .int .i64 b, .int .i64 c, .int .i64 d, .int .i64 e, .int .i64 f], .sl n' sz' en] => ⟨sz = 5 ∧ IsAir n get ∧ sz' = 1 ∧ IsInts n' en ∧ n' ≤ 1000000,
      orE (arr3E n get a b c d e f n' en) .nils (.sl n' 2 (fun i => [.int .i64 (arrLo (intAt en i) (dLo n get a b c d e f i)), .int .i64 (arrHi (intAt en i) (dHi n get a b c d e f i))])), none⟩
  | _ => ⟨False, .top, none⟩
attribute [go_sem] arr3C
def emA (n : Nat) (get : Nat → List V) (a b c d e f : Int) (hd : Nat → List V) (i : Nat) : Int := emLo (cell hd i 0) (dHi n get a b c d e f i)
def emB (n : Nat) (get : Nat → List V) (a b c d e f : Int) (hd : Nat → List V) (i : Nat) : Int := emHi (cell hd i 1) (dLo n get a b c d e f i)
def hrdE (n' : Nat) (hd : Nat → List V) (m : Nat) : Int := firstL [err (!decide ((n' : Int) = (m : Int))) 2, firstI (fun i => ivE (cell hd i 0) (cell hd i 1) 10000000000000) 0 n']
def em3E (n : Nat) (get : Nat → List V) (a b c d e f : Int) (n' : Nat) (hd : Nat → List V) : Int :=
  if checkE n get a b c d e f ≠ 0 then checkE n get a b c d e f else if hrdE n' hd (inN get 0 4) ≠ 0 then hrdE n' hd (inN get 0 4)
  else if idxF (fun i => decide (emB n get a b c d e f hd i < emA n get a b c d e f hd i)) 0 n' = -1 then 0 else 18
def em3C : Contract := fun _ args =>
  match args with
  | [.sl n sz get, .agg [.int .i64 a, .int .i64 b, .int .i64 c, .int .i64 d, .int .i64 e, .int .i64 f], .sl n' sz' hd] => ⟨sz = 5 ∧ IsAir n get ∧ sz' = 2 ∧ IsIv n' hd ∧ n' ≤ 1000000,
      orE (em3E n get a b c d e f n' hd) .nils (.sl n' 2 (fun i => [.int .i64 (emA n get a b c d e f hd i), .int .i64 (emB n get a b c d e f hd i)])), none⟩
  | _ => ⟨False, .top, none⟩
attribute [go_sem] em3C
end Go.Fly
