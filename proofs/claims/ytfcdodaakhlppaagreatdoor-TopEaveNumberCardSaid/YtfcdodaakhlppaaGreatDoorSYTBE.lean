/- Names, shares, squares. -/
import Derived.Test.YtfcdodaakhlppaaGreatDoorSYTBD
import Derived.Test.YtfcdodaakhlppaaGreatDoorSYTBB
import Derived.Test.YtfcdodaakhlppaaGreatDoorAH
set_option linter.unusedSimpArgs false
set_option linter.unusedVariables false
set_option maxRecDepth 100000
set_option maxHeartbeats 4000000
namespace Go.Fly.Tryz
open Go

theorem dName_ok : Holds Proofs.Tryz.prog G0 54 nameC := by
  refine Holds.of_exC D54 Proofs.Tryz.func54 rfl foll (by kernel_rfl) (tab []) (tab_ok trivial) G0_ok fun k0 rl args hpu hpre => ?_
  unfold nameC at hpre ⊢
  split at hpre
  rotate_left
  · exact hpre.elim
  rename_i s
  have hn : s.length ≤ 9223372036854775807 := hpre
  have hsz : (⟨s.toArray⟩ : ByteArray).size = s.length := by simp [ByteArray.size]
  simp only [Proofs.Tryz.f54]
  simp (maxSteps := 4000000) only [go_sem, ↓upXAbsY]
  refine ⟨fun L o h => (by cases h), fun L => ?_⟩
  refine RestT.loopI (β := Nat) [2, 3, 4, 5, 8, 9, 10, 11, 12, 13, 14, 15, 16, 17, 18, 19, 20, 21, 22, 23, 24, 25, 26, 27, 28, 29, 30, 31, 32, 33, 34, 35, 36, 37, 38, 39, 40, 41, 42, 43] (fun i => []) (fun i => updH (fun _ => none) (0, L) (.raw (.stringIter ⟨s.toArray⟩ i))) (fun i => i ≤ s.length ∧ ∀ j, j < i → chB j (byteAt s j) = true) (fun i => s.length - i) 0 ⟨by omega, fun j hj => by omega⟩ ?_ (HpLe.refl _) ?_
  · simp (maxSteps := 4000000) only [go_sem, ↓upXAbsY]
  · intro ck i hck hI
    generalize hq : exC _ _ _ _ _ = gg
    have hi := hI.1
    have hf := hI.2
    by_cases hlt : i < s.length
    · have hge : ¬ s.length ≤ i := by omega
      obtain ⟨c, hc⟩ : ∃ c, (Utf8.decode ⟨s.toArray⟩ i).1 = c := ⟨_, rfl⟩
      have hcb : (byteAt s i = c ∧ c < 128 ∧ (Utf8.decode ⟨s.toArray⟩ i).2 = 1) ∨ (128 ≤ byteAt s i ∧ 128 ≤ c) := by
        by_cases hb : byteAt s i < 128
        · have hd := decode_lo hlt hb
          left
          rw [hd] at hc ⊢
          simp only at hc
          exact ⟨hc, by omega, rfl⟩
        · right
          have := decode_hi hlt (Nat.not_lt.mp hb)
          rw [hc] at this
          exact ⟨by omega, this⟩
      have hcl : c < 48 ∨ (48 ≤ c ∧ c ≤ 57) ∨ (58 ≤ c ∧ c ≤ 64) ∨ (65 ≤ c ∧ c ≤ 90) ∨ (91 ≤ c ∧ c ≤ 94) ∨ c = 95 ∨ c = 96 ∨ (97 ≤ c ∧ c ≤ 122) ∨ 123 ≤ c := by omega
      have hi0 : i = 0 ∨ 0 < i := by omega
      rcases hcl with q | q | q | q | q | q | q | q | q <;> rcases hi0 with z | z
      all_goals
        have f1 : decide ((65 : Int) ≤ (c : Int)) = decide (65 ≤ c) := by rw [decide_eq_decide]; omega
        have f2 : decide ((c : Int) ≤ 90) = decide (c ≤ 90) := by rw [decide_eq_decide]; omega
        have f3 : decide ((97 : Int) ≤ (c : Int)) = decide (97 ≤ c) := by rw [decide_eq_decide]; omega
        have f4 : decide ((c : Int) ≤ 122) = decide (c ≤ 122) := by rw [decide_eq_decide]; omega
        have f5 : decide ((c : Int) < 48) = decide (c < 48) := by rw [decide_eq_decide]; omega
        have f6 : decide ((57 : Int) < (c : Int)) = decide (57 < c) := by rw [decide_eq_decide]; omega
        have f7 : decide ((c : Int) = 95) = decide (c = 95) := by rw [decide_eq_decide]; omega
        have f8 : decide ((i : Int) = 0) = decide (i = 0) := by rw [decide_eq_decide]; omega
        first | rw [decide_eq_true (by omega : 65 ≤ c)] at f1 | rw [decide_eq_false (by omega : ¬ 65 ≤ c)] at f1
        first | rw [decide_eq_true (by omega : c ≤ 90)] at f2 | rw [decide_eq_false (by omega : ¬ c ≤ 90)] at f2
        first | rw [decide_eq_true (by omega : 97 ≤ c)] at f3 | rw [decide_eq_false (by omega : ¬ 97 ≤ c)] at f3
        first | rw [decide_eq_true (by omega : c ≤ 122)] at f4 | rw [decide_eq_false (by omega : ¬ c ≤ 122)] at f4
        first | rw [decide_eq_true (by omega : c < 48)] at f5 | rw [decide_eq_false (by omega : ¬ c < 48)] at f5
        first | rw [decide_eq_true (by omega : 57 < c)] at f6 | rw [decide_eq_false (by omega : ¬ 57 < c)] at f6
        first | rw [decide_eq_true (by omega : c = 95)] at f7 | rw [decide_eq_false (by omega : ¬ c = 95)] at f7
        first | rw [decide_eq_true (by omega : i = 0)] at f8 | rw [decide_eq_false (by omega : ¬ i = 0)] at f8
        rw [← hq]
        clear hq
        simp (maxSteps := 4000000) only [go_sem, ↓upXAbsY, hsz, hlt, hge, hc, f1, f2, f3, f4, f5, f6, f7, f8]
        have hno : ∀ b : Bool, chB i (byteAt s i) = false → VEnt (.bool false) (.bool (nameB s)) := fun _ h => VEnt.of_eq (by rw [nameB_at hlt h])
        first
          | (refine hno true ?_
             rcases hcb with ⟨e1, e2, e3⟩ | ⟨e1, e2⟩
             · rw [e1]; simp [chB, letB, othB]; omega
             · simp [chB, letB, othB]; omega)
          | (have e : byteAt s i = c ∧ (Utf8.decode ⟨s.toArray⟩ i).2 = 1 := by
               rcases hcb with ⟨e1, e2, e3⟩ | ⟨e1, e2⟩
               · exact ⟨e1, e3⟩
               · omega
             rw [e.2]
             exact ⟨i + 1, ⟨hlt, fun j hj => by
               rcases Nat.lt_or_ge j i with e' | e'
               · exact hf j e'
               · obtain rfl : j = i := by omega
                 rw [e.1]; simp [chB, letB, othB]; omega⟩, by omega, HpLe.upd HpLe.none ⟨_, updH_same _ _ _, rfl⟩⟩)
    · have hge : s.length ≤ i := by omega
      rw [← hq]
      clear hq
      simp (maxSteps := 4000000) only [go_sem, ↓upXAbsY, hsz, hlt, hge]
      have hl : i = s.length := by omega
      subst hl
      refine ⟨fun h => VEnt.of_eq ?_, fun h => VEnt.of_eq ?_⟩
      · have hne : s ≠ [] := by simpa using h
        have hpos : 0 < s.length := List.length_pos_iff.2 hne
        by_cases h24 : s.length ≤ 24
        · rw [nameB_true hpos h24 hf, decide_eq_true (by omega)]
        · rw [nameB_len (by omega), decide_eq_false (by omega)]
      · have he : s = [] := by simpa using h
        rw [nameB_len (by simp [he])]

end Go.Fly.Tryz
