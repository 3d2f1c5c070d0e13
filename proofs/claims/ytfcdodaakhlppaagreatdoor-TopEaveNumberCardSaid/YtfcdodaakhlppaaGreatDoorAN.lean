/- Part of a proof: an evaluator of the model's code by abstract values, and plain laws for it. No conditions. -/
import Derived.Test.YtfcdodaakhlppaaGreatDoorAM
set_option linter.unusedSimpArgs false
set_option linter.unusedVariables false
/- The office: contracts of what is known, of what is accepted. -/
namespace Go.Fly.Off
open Go
theorem dEq8 (n : Nat) : decide ((n : Int) = 8) = decide (n = 8) := by rw [decide_eq_decide]; omega
theorem dEq32 (n : Nat) : decide ((n : Int) = 32) = decide (n = 32) := by rw [decide_eq_decide]; omega
theorem dEq64 (n : Nat) : decide ((n : Int) = 64) = decide (n = 64) := by rw [decide_eq_decide]; omega
theorem dEq16 (n : Nat) : decide ((n : Int) = 16) = decide (n = 16) := by rw [decide_eq_decide]; omega
theorem dEq0 (n : Nat) : decide ((n : Int) = 0) = decide (n = 0) := by rw [decide_eq_decide]; omega
theorem dLt3 (n : Nat) : decide ((n : Int) < 3) = decide (n < 3) := by rw [decide_eq_decide]; omega
def knownC (c a : Kd → FuncId) : Contract := fun _ args => ⟨∃ r k e, args = [.cptr (encReg r), formK c a k, .agg (encEv e)] ∧ RL r ∧ e.names.length = k.letters.length,
  .int .i64 (knownL (decReg (cellsOf (arg args 0))) (decEv (cellsOf (arg args 2))) (strOf ((cellsOf (arg args 1)).getD 0 .top))), none⟩
attribute [go_sem] knownC
/-- No name is unknown so far. -/
def NoUnk (r : Reg) (e : Ev) (ls : List UInt8) (i : Nat) : Prop := ∀ j, j < i → (!freshAt ls j && !thereAt r e ls j) = false
def twiceB (r : Reg) (e : Ev) (ls : List UInt8) (i : Nat) : Bool := (List.range i).any fun j => freshAt ls j && thereAt r e ls j
theorem twice_step (r : Reg) (e : Ev) (ls : List UInt8) (i : Nat) : twiceB r e ls (i + 1) = (twiceB r e ls i || (freshAt ls i && thereAt r e ls i)) := by
  unfold twiceB
  rw [List.range_succ, List.any_append]
  simp
theorem known_unk {r : Reg} {e : Ev} {ls : List UInt8} {i : Nat} (hi : i < ls.length) (h : (!freshAt ls i && !thereAt r e ls i) = true) : knownL r e ls = 10 := by
  unfold knownL
  rw [if_pos]
  rw [List.any_eq_true]
  exact ⟨i, List.mem_range.2 hi, h⟩
theorem known_end {r : Reg} {e : Ev} {ls : List UInt8} (h : NoUnk r e ls ls.length) : knownL r e ls = err (twiceB r e ls ls.length) 9 := by
  unfold knownL
  rw [if_neg]
  · rfl
  · rw [List.any_eq_true]
    rintro ⟨j, hj, q⟩
    rw [h j (List.mem_range.1 hj)] at q
    cases q
theorem known_zero {r : Reg} {e : Ev} {ls : List UInt8} (h : knownL r e ls = 0) {i : Nat} (hi : i < ls.length) : (freshAt ls i = false → thereAt r e ls i = true) ∧ (freshAt ls i = true → thereAt r e ls i = false) := by
  unfold knownL at h
  split at h
  · cases h
  · rename_i h1
    split at h
    · cases h
    · rename_i h2
      rw [List.any_eq_true] at h1 h2
      refine ⟨fun hf => ?_, fun hf => ?_⟩
      · cases ht : thereAt r e ls i with
        | true => rfl
        | false => exact absurd ⟨i, List.mem_range.2 hi, by rw [hf, ht]; rfl⟩ h1
      · cases ht : thereAt r e ls i with
        | false => rfl
        | true => exact absurd ⟨i, List.mem_range.2 hi, by rw [hf, ht]; rfl⟩ h2
/-- What stands when an event is checked by its kind. -/
structure ChkPre (r : Reg) (e : Ev) (k : Kd) : Prop where
  rl : RL r
  last : LastOk r
  names : e.names.length = k.letters.length
  vals : e.vals.length = k.values
  known : knownE r e k = 0
  bd : ∀ v ∈ e.vals, 0 ≤ v ∧ v ≤ 999999999
def chkC (k : Kd) : Contract := fun _ args => ⟨∃ r e, args = [.cptr (encReg r), .agg (encEv e)] ∧ ChkPre r e k, .int .i64 (checkK (decReg (cellsOf (arg args 0))) (decEv (cellsOf (arg args 1))) k), none⟩
attribute [go_sem] chkC
theorem there_of {r : Reg} {e : Ev} {k : Kd} (h : knownE r e k = 0) {i : Nat} (hi : i < k.letters.length) (hf : freshAt k.letters i = false) : el e.names i ∈ r.namesOf ((el k.letters i).toNat : Int) := by
  have := (known_zero h hi).1 hf
  unfold thereAt letterAt at this
  rw [if_neg (by rw [hf]; simp)] at this
  exact of_decide_eq_true this
/-- What stands when an event is asked about behind a history. -/
structure HistPre (h : Hist) : Prop where
  rl : RL h.now
  last : LastOk h.now
  events : h.events.length ≤ 1000000
  counted : h.counted.length ≤ 1000000
def acceptC : Contract := fun _ args => ⟨∃ h e, args = [.cptr (encHist h), .agg (encEv e)] ∧ HistPre h ∧ eventE e = 0, .int .i64 (acceptE (decHist (cellsOf (arg args 0))) (decEv (cellsOf (arg args 1)))), none⟩
attribute [go_sem] acceptC
theorem event_ok {e : Ev} (h : eventE e = 0) : ∃ k, kindOf e.kind = some k ∧ e.names.length = k.letters.length ∧ e.vals.length = k.values ∧ (∀ v ∈ e.vals, 0 ≤ v ∧ v ≤ 999999999) ∧ (∀ s ∈ e.names, nameB s = true) ∧ e.text = [] ∧ 1 ≤ e.num ∧ e.num ≤ 1000 := by
  cases hk : kindOf e.kind with
  | none => exact absurd h (eventE_none hk 0).2
  | some k =>
    unfold eventE at h
    rw [hk] at h
    simp only [firstL_zero] at h
    have h1 := rng_zero.1 (h (rng e.num 1 1000) (by simp))
    have h2 := (err_zero (by decide)).1 (h (err (decide (e.names.length ≠ k.letters.length) || decide (e.vals.length ≠ k.values)) 2) (by simp))
    have h3 := (err_zero (by decide)).1 (h (err (decide (e.text ≠ [])) 1) (by simp))
    simp at h2 h3
    refine ⟨k, rfl, h2.1, h2.2, fun v hv => ?_, fun s hs => ?_, h3, h1.1, h1.2⟩
    · exact rng_zero.1 (h (rng v 0 999999999) (by simp; exact .inr (.inr (.inr (.inl ⟨v, hv, rfl⟩)))))
    · have := (err_zero (by decide)).1 (h (err (!nameB s) 8) (by simp; exact .inr (.inr (.inl ⟨s, hs, rfl⟩))))
      simpa using this

theorem kind_str {s : Str} {k : Kd} (h : kindOf s = some k) : s = k.str := by
  unfold kindOf at h
  have := List.find?_some h
  exact (of_decide_eq_true this).symm
theorem undo_iff {s : Str} {k : Kd} (h : kindOf s = some k) : decide (s = [117, 110, 100, 111]) = decide (k = .undo) := by
  rw [kind_str h]
  cases k <;> decide
theorem dec_final : decStrs (.sl 2 1 (rowAt [.str [112, 117, 98, 108, 105, 115, 104], .str [112, 97, 121]] 1)) = [[112, 117, 98, 108, 105, 115, 104], [112, 97, 121]] := rfl

theorem acceptE_else {h : Hist} {e : Ev} {k : Kd} (c1 : e.num = h.events.length + 1) (hk : kindOf e.kind = some k) (hu : k ≠ .undo) :
    acceptE h e = if el e.vals 0 < h.now.day then 22 else if knownL h.now e k.letters ≠ 0 then knownL h.now e k.letters else checkK h.now e k := by
  unfold acceptE
  rw [if_neg (by simpa using c1), hk]
  cases k <;> first | exact absurd rfl hu | rfl
theorem acceptE_undo {h : Hist} {e : Ev} (c1 : e.num = h.events.length + 1) (hk : kindOf e.kind = some .undo) (h0 : 0 < h.counted.length) :
    acceptE h e = err (decide ((el h.counted (h.counted.length - 1)).kind ∈ [[112, 117, 98, 108, 105, 115, 104], [112, 97, 121]])) 21 := by
  unfold acceptE
  rw [if_neg (by simpa using c1), hk, last_el h0]
  simp only
  congr 1
  rw [show Kd.str .publish = [112, 117, 98, 108, 105, 115, 104] from rfl, show Kd.str .pay = [112, 97, 121] from rfl]
  generalize (el h.counted (h.counted.length - 1)).kind = x
  by_cases q : x = [112, 117, 98, 108, 105, 115, 104] <;> by_cases q2 : x = [112, 97, 121] <;> simp [q, q2]
theorem two_ok {a b : Str} : StrsV 2 (rowAt [.str a, .str b] 1) := ⟨by omega, fun i hi => by
  have : i = 0 ∨ i = 1 := by omega
  rcases this with rfl | rfl <;> rfl⟩
end Go.Fly.Off
