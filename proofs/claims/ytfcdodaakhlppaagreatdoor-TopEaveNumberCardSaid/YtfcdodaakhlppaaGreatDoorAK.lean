/- Part of a proof: an evaluator of the model's code by abstract values, and plain laws for it. No conditions. -/
import Derived.Test.YtfcdodaakhlppaaGreatDoorAJ
set_option linter.unusedSimpArgs false
set_option linter.unusedVariables false
/- The office: contracts of what is matched, listed, offered; of events by themselves; the kinds of events as a map. -/
namespace Go.Fly.Off
open Go
theorem el_snoc_lt {α : Type} [Inhabited α] {l : List α} {x : α} {j : Nat} (h : j < l.length) : el (l ++ [x]) j = el l j := by
  simp [el, List.getElem?_append_left h]
theorem el_snoc {α : Type} [Inhabited α] {l : List α} {x : α} {j : Nat} (h : j = l.length) : el (l ++ [x]) j = x := by
  subst h; simp [el]
theorem take_snoc {α : Type} [Inhabited α] {l : List α} {i : Nat} (h : i < l.length) : l.take (i + 1) = l.take i ++ [el l i] := by
  rw [el_get _ h, List.take_succ_eq_append_getElem h]
theorem filter_yes {α : Type} [Inhabited α] {p : α → Bool} {l : List α} {i : Nat} (h : i < l.length) (hp : p (el l i) = true) : (l.take (i + 1)).filter p = (l.take i).filter p ++ [el l i] := by
  rw [take_snoc h, List.filter_append, List.filter_cons_of_pos hp, List.filter_nil]
theorem filter_no {α : Type} [Inhabited α] {p : α → Bool} {l : List α} {i : Nat} (h : i < l.length) (hp : p (el l i) = false) : (l.take (i + 1)).filter p = (l.take i).filter p := by
  rw [take_snoc h, List.filter_append, List.filter_cons_of_neg (by simp [hp]), List.filter_nil, List.append_nil]
/-- One more row behind those that a loop has made. -/
theorem snocE {α : Type} [Inhabited α] {f : α → List V} {sz : Nat} {l : List α} {x : α} {j n : Nat} (hn : n = l.length) (hl : (f x).length = sz) (hj : j < n + 1) : f (el (l ++ [x]) j) = if j < n then f (el l j) else rowAt (f x) sz (0 + (j - n)) := by
  subst hn
  by_cases e : j < l.length
  · rw [if_pos e, el_snoc_lt e]
  · obtain rfl : j = l.length := by omega
    rw [if_neg e, rowOne hl (by omega), el_snoc rfl]
/-- A condition on flights, as a function. -/
def keptV (k1 k2 : FuncId) : Option Str → V
  | none => .fn (.func k1) [] []
  | some s => .fn (.func k2) [] [.cptr [.str s]]
def keptF : V → Fl → Bool
  | .fn _ _ [] => fun f => decide (f.heard ≠ -1)
  | .fn _ _ [.cptr [.str s]] => fun f => decide (f.type = s)
  | _ => fun _ => false
theorem keptF_nil {a : Fn} {b : List V} : keptF (.fn a b []) = fun f => decide (f.heard ≠ -1) := by cases b <;> rfl
theorem keptF_one {a : Fn} {b : List V} {s : Str} : keptF (.fn a b [.cptr [.str s]]) = fun f => decide (f.type = s) := by cases b <;> rfl
def flB (g : Fl → Bool) : Contract := fun _ args => ⟨∃ f, args = [.agg (encFl f)], .bool (g (decFl (cellsOf (arg args 0)))), none⟩
def flTypeC : Contract := fun _ args => ⟨∃ f s, args = [.agg (encFl f), .cptr [.str s]], .bool (decide ((decFl (cellsOf (arg args 0))).type = strOf ((cellsOf (arg args 1)).getD 0 .top))), none⟩
def keptFlC (k1 k2 : FuncId) : Contract := fun _ args => ⟨∃ l p, args = [encRows 5 encFl l, keptV k1 k2 p] ∧ l.length ≤ 1000000, encRows 5 encFl ((decRows decFl (arg args 0)).filter (keptF (arg args 1))), none⟩
def matchedC : Contract := fun _ args => ⟨∃ r s, args = [.cptr (encReg r), .str s] ∧ RL r, encRows 5 encFl ((decReg (cellsOf (arg args 0))).matched (strOf (arg args 1))), none⟩
def fliesC : Contract := fun _ args => ⟨∃ r d, args = [.cptr (encReg r), .int .i64 d] ∧ RL r, .bool ((decReg (cellsOf (arg args 0))).flies (intOf (arg args 1))), none⟩
def optV : Option Int → V
  | none => .tup [.int .i64 (-1), .bool false]
  | some n => .tup [.int .i64 n, .bool true]
/-- The last map has so many levels as any machine takes. -/
def LastOk (r : Reg) : Prop := ∀ m, r.maps.getLast? = some m → m.levels.length ≤ 1000000
def listedC : Contract := fun _ args => ⟨∃ r s, args = [.cptr (encReg r), .str s] ∧ RL r ∧ s ∈ r.namesOf 104 ∧ LastOk r, optV ((decReg (cellsOf (arg args 0))).listed (strOf (arg args 1))), none⟩
def loudC : Contract := fun _ args => ⟨∃ r s, args = [.cptr (encReg r), .str s] ∧ RL r ∧ s ∈ r.namesOf 104 ∧ LastOk r, .bool ((decReg (cellsOf (arg args 0))).isLoud (strOf (arg args 1))), none⟩
def ofHouseC : Contract := fun _ args => ⟨∃ o s, args = [.agg (encOf o), .cptr [.str s]], .bool (decide ((decOf (cellsOf (arg args 0))).house = strOf ((cellsOf (arg args 1)).getD 0 .top))), none⟩
/-- The name that a function has caught. -/
def capS : V → Str
  | .fn _ _ [.cptr [.str s]] => s
  | _ => []
theorem capS_one {a : Fn} {b : List V} {s : Str} : capS (.fn a b [.cptr [.str s]]) = s := by cases b <;> rfl
def ofIdx (l : List Of) (s : Str) : Int := if l.any (fun x => decide (x.house = s)) then (l.findIdx fun x => decide (x.house = s) : Nat) else -1
def idxOfC (k : FuncId) : Contract := fun _ args => ⟨∃ l s, args = [encRows 4 encOf l, .fn (.func k) [] [.cptr [.str s]]] ∧ l.length ≤ 1000000, .int .i64 (ofIdx (decRows decOf (arg args 0)) (capS (arg args 1))), none⟩
def anyOfC (k : FuncId) : Contract := fun _ args => ⟨∃ l s, args = [encRows 4 encOf l, .fn (.func k) [] [.cptr [.str s]]] ∧ l.length ≤ 1000000, .bool ((decRows decOf (arg args 0)).any fun x => decide (x.house = capS (arg args 1))), none⟩
def hasOfferC : Contract := fun _ args => ⟨∃ r s, args = [.cptr (encReg r), .str s] ∧ RL r, .bool ((decReg (cellsOf (arg args 0))).hasOffer (strOf (arg args 1))), none⟩
attribute [go_sem] flB flTypeC keptFlC matchedC fliesC listedC loudC ofHouseC idxOfC anyOfC hasOfferC keptF_nil keptF_one capS_one
theorem matched_eq (r : Reg) (s : Str) : (r.flights.filter fun f => decide (f.heard ≠ -1)).filter (fun f => decide (f.type = s)) = r.matched s := by
  unfold Reg.matched
  rw [List.filter_filter]
  congr 1
  funext f
  exact Bool.and_comm _ _
theorem any_step {α : Type} [Inhabited α] {p : α → Bool} {l : List α} {i : Nat} (hi : i < l.length) (hb : ∀ j, j < i → p (el l j) = false) (h : p (el l i) = true) : l.any p = true := by
  rw [List.any_eq_true]
  exact ⟨el l i, by rw [el_get _ hi]; exact List.getElem_mem hi, h⟩
theorem any_none {α : Type} [Inhabited α] {p : α → Bool} {l : List α} (hb : ∀ j, j < l.length → p (el l j) = false) : l.any p = false := by
  rw [List.any_eq_false]
  intro x hx
  obtain ⟨j, hj, rfl⟩ := List.mem_iff_getElem.1 hx
  rw [← el_get _ hj, hb j hj]
  simp
theorem ofIdx_yes {l : List Of} {s : Str} {i : Nat} (hi : i < l.length) (hb : ∀ j, j < i → decide ((el l j).house = s) = false) (h : decide ((el l i).house = s) = true) : ofIdx l s = i := by
  unfold ofIdx
  rw [if_pos (any_step hi hb h)]
  have : (l.findIdx fun x => decide (x.house = s)) = i := by
    rw [List.findIdx_eq hi]
    refine ⟨by rw [← el_get _ hi]; exact h, fun j hj => ?_⟩
    have := hb j hj
    rw [el_get _ (by omega)] at this
    exact this
  rw [this]
theorem ofIdx_no {l : List Of} {s : Str} (hb : ∀ j, j < l.length → decide ((el l j).house = s) = false) : ofIdx l s = -1 := by
  unfold ofIdx
  rw [if_neg (by rw [any_none hb]; simp)]
theorem ofIdx_nonneg {l : List Of} {s : Str} : decide (0 ≤ ofIdx l s) = l.any fun x => decide (x.house = s) := by
  unfold ofIdx
  cases l.any fun x => decide (x.house = s) <;> simp
theorem last_el {α : Type} [Inhabited α] {l : List α} (h : 0 < l.length) : l.getLast? = some (el l (l.length - 1)) := by
  rw [List.getLast?_eq_getElem?, el_get _ (by omega)]
  simp
theorem listed_some {r : Reg} {s : Str} (h : 0 < r.maps.length) : r.listed s = (el r.maps (r.maps.length - 1)).levels[place (r.namesOf 104) s]? := by
  unfold Reg.listed
  rw [last_el h]
theorem listed_none {r : Reg} {s : Str} (h : r.maps.length = 0) : r.listed s = none := by
  unfold Reg.listed
  rw [List.eq_nil_of_length_eq_zero h]
  rfl
end Go.Fly.Off
