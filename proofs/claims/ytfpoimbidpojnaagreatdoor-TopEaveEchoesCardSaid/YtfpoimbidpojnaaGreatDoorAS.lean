/- Part of a proof: an evaluator of the model's code by abstract values, and plain laws for it. No conditions. -/
import Derived.Test.YtfpoimbidpojnaaGreatDoorAQ
import Derived.Test.YtfpoimbidpojnaaGreatDoorAR
set_option linter.unusedSimpArgs false
set_option linter.unusedVariables false
/- What arrives over walls and through the air. -/
namespace Go.Fly
open Go
def wallsN : V → Nat
  | .sl n _ _ => n
  | _ => 0
def wallsG : V → Nat → List V
  | .sl _ _ g => g
  | _ => fun _ => []
theorem wallsN_nils : wallsN .nils = 0 := rfl
theorem wallsG_nils : wallsG .nils = fun _ => [] := rfl
theorem wallsN_sl {n sz : Nat} {g : Nat → List V} : wallsN (.sl n sz g) = n := rfl
theorem wallsG_sl {n sz : Nat} {g : Nat → List V} : wallsG (.sl n sz g) = g := rfl
attribute [go_sem] wallsN_nils wallsG_nils wallsN_sl wallsG_sl
def walls2C : Contract := fun _ args =>
  match args with
  | [w] => ⟨(w = .nils ∨ ∃ n get, w = .sl n 7 get) ∧ IsWalls (wallsN w) (wallsG w) ∧ wallsN w ≤ 1000000, .sl (wallsN w) 7 (wallsG w), none⟩
  | _ => ⟨False, .top, none⟩
attribute [go_sem] walls2C
theorem ones7 {s : List UInt8} {a b c d e f : Int} : ∀ v ∈ [V.str s, V.int .i64 a, V.int .i64 b, V.int .i64 c, V.int .i64 d, V.int .i64 e, V.int .i64 f], Pu v ∧ oneC v = true := fun v hv => by
  simp only [List.mem_cons, List.not_mem_nil, or_false] at hv
  rcases hv with rfl | rfl | rfl | rfl | rfl | rfl | rfl <;> first | exact one_int | exact ⟨.str _, rfl⟩
structure TownOk (nt : Nat) (gt : Nat → List V) (na : Nat) (ga : Nat → List V) (en : Int) : Prop where
  table : IsIv nt gt
  tab : TabOk2 nt gt
  air : IsAir na ga
  ae : airE na ga = 0
  en : 0 ≤ en ∧ en ≤ 100000000
def SpotsOk (a b c d e f : Int) : Prop := SpotOk a b c ∧ SpotOk d e f ∧ ¬ (a = d ∧ b = e ∧ c = f)
/-- Whether all parts are valid. -/
def fitsT (nw : Nat) (gw : Nat → List V) (nt : Nat) (gt : Nat → List V) (na : Nat) (ga : Nat → List V) (a b c d e f en : Int) : Bool :=
  decide ((nw : Int) ≤ 4) && (shortWallsB nw gw && (decide (wallsE nw gw = 0) && (decide ((nt : Int) ≤ 16) && (decide (tableE nt gt = 0) && (shortAirB na ga && (decide (airE na ga = 0) && (decide (firstL [spotE a b c, spotE d e f] = 0) && (!(decide (a = d) && (decide (b = e) && decide (c = f))) && decide (rng en 0 100000000 = 0)))))))))
def townFitsC : Contract := fun _ args =>
  match args with
  | [.agg [.sl nw sw gw, .sl nt st gt, .sl na sa ga, .int .i64 a, .int .i64 b, .int .i64 c, .int .i64 d, .int .i64 e, .int .i64 f, .int .i64 en]] =>
    ⟨(sw = 7 ∧ st = 2 ∧ sa = 5) ∧ IsWalls nw gw ∧ IsIv nt gt ∧ IsAir na ga, .bool (fitsT nw gw nt gt na ga a b c d e f en), none⟩
  | _ => ⟨False, .top, none⟩
def airLen2C : Contract := fun _ args =>
  match args with
  | [.agg [.int .i64 a, .int .i64 b, .int .i64 c, .int .i64 d, .int .i64 e, .int .i64 f]] => ⟨PathOk a b c d e f, .tup [.agg [.int .i64 (rootE (sqE a b c d e f) 1), .int .i64 (rootUp (sqE a b c d e f) 1)], .int .i64 0], none⟩
  | _ => ⟨False, .top, none⟩
def trueC : Contract := fun _ args =>
  match args with
  | [] => ⟨True, .bool true, none⟩
  | _ => ⟨False, .top, none⟩
attribute [go_sem] townFitsC airLen2C trueC
theorem fitsT_use {nw : Nat} {gw : Nat → List V} {nt : Nat} {gt : Nat → List V} {na : Nat} {ga : Nat → List V} {a b c d e f en : Int} (h : fitsT nw gw nt gt na ga a b c d e f en = true) :
    nw ≤ 4 ∧ WallsOk nw gw ∧ TabOk2 nt gt ∧ airE na ga = 0 ∧ SpotsOk a b c d e f ∧ 0 ≤ en ∧ en ≤ 100000000 := by
  unfold fitsT at h
  simp only [Bool.and_eq_true, decide_eq_true_eq] at h
  obtain ⟨h1, h2, h3, h4, h5, h6, h7, h8, h9, h10⟩ := h
  rw [firstL_zero] at h8
  simp only [List.mem_cons, List.not_mem_nil, or_false, forall_eq_or_imp, forall_eq, spotE_zero] at h8
  have h10 := rng_zero.1 h10
  refine ⟨by omega, wallsE_zero.1 h3, tableE_zero h5, h7, ⟨h8.1, h8.2, fun q => ?_⟩, h10⟩
  obtain ⟨rfl, rfl, rfl⟩ := q
  simp at h9
end Go.Fly
