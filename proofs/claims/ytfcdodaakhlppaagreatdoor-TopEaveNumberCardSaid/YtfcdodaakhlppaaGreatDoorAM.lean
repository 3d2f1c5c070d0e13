/- Part of a proof: an evaluator of the model's code by abstract values, and plain laws for it. No conditions. -/
import Derived.Test.YtfcdodaakhlppaaGreatDoorAL
import Derived.Test.YtfcdodaakhlppaaGreatDoorAI
set_option linter.unusedSimpArgs false
set_option linter.unusedVariables false
/- The office: contracts of chains, numbers, levels. -/
namespace Go.Fly.Off
open Go
abbrev It := Str × Int
def encIt (x : It) : List V := [.str x.1, .int .i64 x.2]
def decIt : List V → It
  | [a, b] => (strOf a, intOf b)
  | _ => default
theorem dec_it (x : It) : decIt (encIt x) = x := rfl
theorem decIt_2 {a b : V} : decIt [a, b] = (strOf a, intOf b) := rfl
theorem eta_it (x : It) : (x.1, x.2) = x := rfl
theorem ones_it (x : It) : Ones (encIt x) := ones_cons (.str _) rfl (ones_cons (.int _ _) rfl ones_nil)
theorem pu_its (l : List It) : Pu (encRows 2 encIt l) ↔ True := iff_true_intro (pu_rows (fun x => (ones_it x).pu) l)
theorem dec_its (l : List It) : decRows decIt (encRows 2 encIt l) = l := dec_rows 2 encIt decIt dec_it l
theorem dec_itsU (l : List It) : decRows decIt (.sl l.length 2 fun i => [.str (el l i).1, .int .i64 (el l i).2]) = l := dec_its l
theorem dec_itsV (l : List It) : decRows decIt (.sl l.length 2 fun i => encIt (el l i)) = l := dec_its l
theorem pu_itsV (l : List It) : Pu (.sl l.length 2 fun i => encIt (el l i)) ↔ True := pu_its l
attribute [go_sem] dec_it decIt_2 eta_it pu_its dec_its dec_itsU dec_itsV pu_itsV
/-- What keeps a chain in bounds. -/
structure ChainOk (r : Reg) (share : Int) : Prop where
  rl : RL r
  types : ∀ t ∈ r.types, (0 ≤ t.energy ∧ t.energy ≤ 1000000000) ∧ 0 ≤ t.factor ∧ t.factor ≤ 2000
  flights : ∀ f ∈ r.flights, f.type ∈ r.namesOf 116
  many : r.flights.length ≤ 64
  share : 0 ≤ share ∧ share ≤ 1000
def partsC (k : FuncId) : Contract := fun _ args => ⟨∃ r h, args = [.cptr (encReg r), .agg (encHo h)], .fn (.func k) [] [.cptr [.cptr (encReg (decReg (cellsOf (arg args 0))))], .cptr (encHo (decHo (cellsOf (arg args 1))))], none⟩
def chainC : Contract := fun _ args => ⟨∃ r h, args = [.cptr (encReg r), .agg (encHo h)] ∧ ChainOk r h.share, encRows 2 encIt ((decReg (cellsOf (arg args 0))).chain (decHo (cellsOf (arg args 1))).share), none⟩
/-- Items that can be added. -/
def ItsOk (l : List It) : Prop := l.length ≤ 64 ∧ ∀ x ∈ l, 0 ≤ x.2 ∧ x.2 ≤ 2000000000
def numberC : Contract := fun _ args => ⟨∃ l, args = [encRows 2 encIt l] ∧ ItsOk l, .tup [.int .i64 (sumOf (decRows decIt (arg args 0))), .int .i64 (levelE (sumOf (decRows decIt (arg args 0))))], none⟩
def levelC : Contract := fun _ args => ⟨∃ r h, args = [.cptr (encReg r), .agg (encHo h)] ∧ ChainOk r h.share, .int .i64 ((decReg (cellsOf (arg args 0))).level levelE (decHo (cellsOf (arg args 1)))), none⟩
attribute [go_sem] partsC chainC numberC levelC
theorem el_mem {α : Type} [Inhabited α] {l : List α} {i : Nat} (h : i < l.length) : el l i ∈ l := by rw [el_get _ h]; exact List.getElem_mem h
theorem typ_mem {r : Reg} {s : Str} (h : s ∈ r.namesOf 116) : r.typ s ∈ r.types := by
  have hlt : place (r.namesOf 116) s < r.types.length := by have := place_lt h; rwa [show (r.namesOf 116).length = r.types.length from List.length_map _] at this
  exact el_mem hlt
theorem mul3_bd {a b c : Int} (ha : 0 ≤ a ∧ a ≤ 1000000000) (hb : 0 ≤ b ∧ b ≤ 2000) (hc : 0 ≤ c ∧ c ≤ 1000) : (0 ≤ a * b ∧ a * b ≤ 2000000000000) ∧ (0 ≤ a * b * c ∧ a * b * c ≤ 2000000000000000) ∧ 0 ≤ (a * b * c).tdiv 1000000 ∧ (a * b * c).tdiv 1000000 ≤ 2000000000 := by
  have h1 : 0 ≤ a * b ∧ a * b ≤ 2000000000000 := ⟨Int.mul_nonneg ha.1 hb.1, Int.le_trans (Int.mul_le_mul ha.2 hb.2 hb.1 (by decide)) (by decide)⟩
  have h2 : 0 ≤ a * b * c ∧ a * b * c ≤ 2000000000000000 := ⟨Int.mul_nonneg h1.1 hc.1, Int.le_trans (Int.mul_le_mul h1.2 hc.2 hc.1 (by decide)) (by decide)⟩
  refine ⟨h1, h2, ?_⟩
  rw [Int.tdiv_eq_ediv_of_nonneg h2.1]
  omega
theorem energy_bd {r : Reg} {share : Int} (h : ChainOk r share) {f : Fl} (hf : f ∈ r.flights) : 0 ≤ r.energyAt share f ∧ r.energyAt share f ≤ 2000000000 := by
  have := h.types _ (typ_mem (h.flights f hf))
  exact (mul3_bd this.1 this.2 h.share).2.2
theorem its_ok {r : Reg} {share : Int} (h : ChainOk r share) : ItsOk (r.chain share) := by
  refine ⟨by unfold Reg.chain; rw [List.length_map]; exact h.many, fun x hx => ?_⟩
  unfold Reg.chain at hx
  obtain ⟨f, hf, rfl⟩ := List.mem_map.1 hx
  exact energy_bd h hf
/-- The sum of the first items. -/
def sumN (l : List It) (n : Nat) : Int := sumOf (l.take n)
theorem sum_step {l : List It} {i : Nat} (h : i < l.length) : sumN l (i + 1) = sumN l i + (el l i).2 := by
  unfold sumN sumOf
  rw [take_snoc h, List.foldl_append]
  rfl
theorem sum_bd {l : List It} (hl : ItsOk l) : ∀ {i : Nat}, i ≤ l.length → 0 ≤ sumN l i ∧ sumN l i ≤ 2000000000 * i
  | 0, _ => ⟨Int.le_refl _, Int.le_refl _⟩
  | i + 1, h => by
    have h1 := sum_bd hl (i := i) (by omega)
    have h2 := hl.2 _ (el_mem (show i < l.length by omega))
    rw [sum_step (by omega)]
    omega
theorem sum_all (l : List It) : sumN l l.length = sumOf l := by unfold sumN; rw [List.take_length]
end Go.Fly.Off
