/- Names, shares, squares. -/
import Derived.Test.YtfpoimbidpojnaaGreatDoorSYZEn
import Derived.Test.YtfpoimbidpojnaaGreatDoorAG
set_option linter.unusedSimpArgs false
set_option linter.unusedVariables false
set_option maxRecDepth 100000
set_option maxHeartbeats 4000000
namespace Go.Fly.Tryz
open Go

theorem qName_ok : Holds Proofs.Tryz.prog G0 95 nameC := by
  refine Holds.of_exC D95 Proofs.Tryz.func95 rfl foll (by kernel_rfl) (tab []) (tab_ok trivial) G0_ok fun k0 rl args hpu hpre => ?_
  unfold nameC at hpre ⊢
  split at hpre
  rotate_left
  · exact hpre.elim
  rename_i s
  have hn : s.length ≤ 9223372036854775807 := hpre
  simp only [Proofs.Tryz.f95]
  simp (maxSteps := 4000000) only [go_sem, ↓op_move, ↓op_assign, ↓op_pick, ↓op_alloc, ↓op_box, ↓op_build, ↓op_buildSlice, ↓op_load, ↓op_store, ↓op_nilCheck, ↓op_bin, ↓op_un, ↓op_convert, ↓op_makeFunc, ↓op_makeSlice, ↓op_slice, ↓op_fieldAddr, ↓op_field, ↓op_indexAddr, ↓op_index, ↓op_extract, ↓op_lookup, ↓op_mapUpdate, ↓op_makeMap, ↓op_range, ↓op_next, ↓op_call, ↓op_builtin, ↓g_tt, ↓g_ff, ↓g_tf, ↓g_ft, ↓g_tnt, ↓g_tnf, ↓g_fnt, ↓g_fnf]
  refine ⟨fun h0 => ⟨fun h => VEnt.of_eq (by rw [nameB_len (by omega)]), fun h => ?_⟩, fun h0 => VEnt.of_eq (by rw [nameB_len (by omega)])⟩
  refine RestT.loopI (β := Nat) [2, 4, 5, 14, 15, 16, 17, 18, 19, 20, 21, 22, 23, 24, 25, 26, 27, 28, 29, 30, 31, 32, 33, 34, 35, 36, 37, 38, 39, 40, 41, 42, 43, 44, 45, 46, 47, 48, 49, 50, 51, 52, 53, 54, 55, 56, 57, 58, 59, 60, 61, 62, 63, 64, 65, 66, 67] (fun i => [(3, .int .i64 i)]) (fun _ => fun _ => none) (fun i => i ≤ s.length ∧ ∀ j, j < i → chB j (byteAt s j) = true) (fun i => s.length - i) 0 ⟨by omega, fun j hj => by omega⟩ ?_ HpLe.none ?_
  · simp (maxSteps := 4000000) only [go_sem, ↓op_move, ↓op_assign, ↓op_pick, ↓op_alloc, ↓op_box, ↓op_build, ↓op_buildSlice, ↓op_load, ↓op_store, ↓op_nilCheck, ↓op_bin, ↓op_un, ↓op_convert, ↓op_makeFunc, ↓op_makeSlice, ↓op_slice, ↓op_fieldAddr, ↓op_field, ↓op_indexAddr, ↓op_index, ↓op_extract, ↓op_lookup, ↓op_mapUpdate, ↓op_makeMap, ↓op_range, ↓op_next, ↓op_call, ↓op_builtin, ↓g_tt, ↓g_ff, ↓g_tf, ↓g_ft, ↓g_tnt, ↓g_tnf, ↓g_fnt, ↓g_fnf]
    try simp
  · intro ck i hck hI
    generalize hq : exC _ _ _ _ _ = gg
    have hi := hI.1
    have hf := hI.2
    by_cases hlt : i < s.length
    · have hd : decide ((i : Int) < (s.length : Int)) = true := by simp; omega
      obtain ⟨c, hc⟩ : ∃ c, (s[i]?.getD 0).toNat = c := ⟨_, rfl⟩
      have hcb : byteAt s i = c := by rw [← hc]; simp [byteAt]
      have hcl : c < 48 ∨ (48 ≤ c ∧ c ≤ 57) ∨ (58 ≤ c ∧ c ≤ 64) ∨ (65 ≤ c ∧ c ≤ 90) ∨ (91 ≤ c ∧ c ≤ 94) ∨ c = 95 ∨ c = 96 ∨ (97 ≤ c ∧ c ≤ 122) ∨ 123 ≤ c := by omega
      have hi0 : i = 0 ∨ 0 < i := by omega
      rcases hcl with q | q | q | q | q | q | q | q | q <;> rcases hi0 with z | z
      all_goals
        have f1 : decide ((65 : Int) ≤ (c : Int)) = decide (65 ≤ c) := by rw [decide_eq_decide]; omega
        have f2 : decide ((c : Int) ≤ 90) = decide (c ≤ 90) := by rw [decide_eq_decide]; omega
        have f3 : decide ((97 : Int) ≤ (c : Int)) = decide (97 ≤ c) := by rw [decide_eq_decide]; omega
        have f4 : decide ((c : Int) ≤ 122) = decide (c ≤ 122) := by rw [decide_eq_decide]; omega
        have f5 : decide ((48 : Int) ≤ (c : Int)) = decide (48 ≤ c) := by rw [decide_eq_decide]; omega
        have f6 : decide ((c : Int) ≤ 57) = decide (c ≤ 57) := by rw [decide_eq_decide]; omega
        have f7 : decide ((c : Int) = 95) = decide (c = 95) := by rw [decide_eq_decide]; omega
        have f8 : decide ((i : Int) = 0) = decide (i = 0) := by rw [decide_eq_decide]; omega
        first | rw [decide_eq_true (by omega : 65 ≤ c)] at f1 | rw [decide_eq_false (by omega : ¬ 65 ≤ c)] at f1
        first | rw [decide_eq_true (by omega : c ≤ 90)] at f2 | rw [decide_eq_false (by omega : ¬ c ≤ 90)] at f2
        first | rw [decide_eq_true (by omega : 97 ≤ c)] at f3 | rw [decide_eq_false (by omega : ¬ 97 ≤ c)] at f3
        first | rw [decide_eq_true (by omega : c ≤ 122)] at f4 | rw [decide_eq_false (by omega : ¬ c ≤ 122)] at f4
        first | rw [decide_eq_true (by omega : 48 ≤ c)] at f5 | rw [decide_eq_false (by omega : ¬ 48 ≤ c)] at f5
        first | rw [decide_eq_true (by omega : c ≤ 57)] at f6 | rw [decide_eq_false (by omega : ¬ c ≤ 57)] at f6
        first | rw [decide_eq_true (by omega : c = 95)] at f7 | rw [decide_eq_false (by omega : ¬ c = 95)] at f7
        first | rw [decide_eq_true (by omega : i = 0)] at f8 | rw [decide_eq_false (by omega : ¬ i = 0)] at f8
        rw [← hq]
        clear hq
        simp (maxSteps := 4000000) only [go_sem, ↓op_move, ↓op_assign, ↓op_pick, ↓op_alloc, ↓op_box, ↓op_build, ↓op_buildSlice, ↓op_load, ↓op_store, ↓op_nilCheck, ↓op_bin, ↓op_un, ↓op_convert, ↓op_makeFunc, ↓op_makeSlice, ↓op_slice, ↓op_fieldAddr, ↓op_field, ↓op_indexAddr, ↓op_index, ↓op_extract, ↓op_lookup, ↓op_mapUpdate, ↓op_makeMap, ↓op_range, ↓op_next, ↓op_call, ↓op_builtin, ↓g_tt, ↓g_ff, ↓g_tf, ↓g_ft, ↓g_tnt, ↓g_tnf, ↓g_fnt, ↓g_fnf, hc, hd, f1, f2, f3, f4, f5, f6, f7, f8]
        repeat (refine ⟨by omega, ?_⟩)
        first
          | (exact VEnt.of_eq (by rw [nameB_at hlt (by rw [hcb]; simp [chB, letB, othB]; omega)]))
          | (exact ⟨inK_of (by omega) (by omega), i + 1, ⟨hlt, fun j hj => by
              rcases Nat.lt_or_ge j i with e | e
              · exact hf j e
              · obtain rfl : j = i := by omega
                rw [hcb]; simp [chB, letB, othB]; omega⟩, by omega, .inr rfl, HpLe.none⟩)
    · have hd : decide ((i : Int) < (s.length : Int)) = false := by simp; omega
      rw [← hq]
      clear hq
      simp (maxSteps := 4000000) only [go_sem, ↓op_move, ↓op_assign, ↓op_pick, ↓op_alloc, ↓op_box, ↓op_build, ↓op_buildSlice, ↓op_load, ↓op_store, ↓op_nilCheck, ↓op_bin, ↓op_un, ↓op_convert, ↓op_makeFunc, ↓op_makeSlice, ↓op_slice, ↓op_fieldAddr, ↓op_field, ↓op_indexAddr, ↓op_index, ↓op_extract, ↓op_lookup, ↓op_mapUpdate, ↓op_makeMap, ↓op_range, ↓op_next, ↓op_call, ↓op_builtin, ↓g_tt, ↓g_ff, ↓g_tf, ↓g_ft, ↓g_tnt, ↓g_tnf, ↓g_fnt, ↓g_fnf, hd]
      exact VEnt.of_eq (by rw [nameB_true (by omega) (by omega) fun j hj => hf j (by omega)])

end Go.Fly.Tryz
