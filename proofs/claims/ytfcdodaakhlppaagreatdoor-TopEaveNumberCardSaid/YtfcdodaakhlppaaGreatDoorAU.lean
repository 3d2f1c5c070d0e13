/- Part of a proof: an evaluator of the model's code by abstract values, and plain laws for it. No conditions. -/
import Derived.Test.YtfcdodaakhlppaaGreatDoorAT
set_option linter.unusedSimpArgs false
set_option linter.unusedVariables false
/- The office: what a journal that is played again is like. -/
namespace Go.Fly.Off
open Go
theorem add_events (lv : Int → Int) (h : Hist) (e : Ev) : (addE lv h e).events = h.events ++ [e] := by
  unfold addE
  split <;> rfl
theorem replayL_ok {lv : Int → Int} : ∀ (l : List Ev) (h : Hist) (i : Nat), HOk lv h → HOk lv (replayL lv h l i).1 ∧ (replayL lv h l i).1.events.length ≤ h.events.length + l.length
  | [], h, i, hh => ⟨hh, Nat.le_add_right _ _⟩
  | e :: l, h, i, hh => by
    unfold replayL
    simp only
    split
    · exact ⟨hh, Nat.le_add_right _ _⟩
    · rename_i hw
      have hw : firstL [eventE e, acceptE h e] = 0 := Classical.not_not.1 hw
      rw [firstL_zero] at hw
      obtain ⟨q1, q2⟩ := replayL_ok l (addE lv h e) (i + 1) (hh.add (hw _ (by simp)) (hw _ (by simp)))
      refine ⟨q1, Nat.le_trans q2 ?_⟩
      rw [add_events, List.length_append]
      simp only [List.length_cons, List.length_nil]
      omega
theorem replayed_ok {lv : Int → Int} (l : List Ev) : HOk lv (replayed lv l).1 ∧ (replayed lv l).1.events.length ≤ 1000 := by
  unfold replayed
  split
  · exact ⟨HOk.init, by decide⟩
  · obtain ⟨q1, q2⟩ := replayL_ok (lv := lv) l {} 0 HOk.init
    exact ⟨q1, Nat.le_trans q2 (by show 0 + l.length ≤ 1000; omega)⟩
/-- The error of an event behind a journal. -/
def acceptsE (lv : Int → Int) (l : List Ev) (e : Ev) : Int :=
  let w := firstL [(replayed lv l).2.2, eventE e, err (decide (1000 ≤ l.length)) 5]
  if w ≠ 0 then w else acceptE (replayed lv l).1 e
theorem dec_evsX (l : List Ev) : decRows decEv (.sl l.length 5 fun i => [.int .i64 (el l i).num, .str (el l i).kind, .sl (el l i).names.length 1 (fun j => [.str (el (el l i).names j)]), .sl (el l i).vals.length 1 (fun j => [.int .i64 (el (el l i).vals j)]), .str (el l i).text]) = l := dec_evs l
theorem pu_evsX (l : List Ev) : Pu (.sl l.length 5 fun i => [.int .i64 (el l i).num, .str (el l i).kind, .sl (el l i).names.length 1 (fun j => [.str (el (el l i).names j)]), .sl (el l i).vals.length 1 (fun j => [.int .i64 (el (el l i).vals j)]), .str (el l i).text]) ↔ True := pu_evs l
attribute [go_sem] dec_evsX pu_evsX
end Go.Fly.Off
