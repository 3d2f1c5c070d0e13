/- Shares, squares, settings: the reference. -/
import Derived.Test.YtlfciglmhomdpaaSBC
import Derived.Test.YtlfciglmhomdpaaAG
set_option linter.unusedSimpArgs false
set_option linter.unusedVariables false
set_option maxRecDepth 100000
set_option maxHeartbeats 1000000
namespace Go.Fly.Try
open Go

theorem rShares_ok : Holds Proofs.Try.prog G0 28 sharesC := by
  refine Holds.of_exC D28 Proofs.Try.func28 rfl foll (by kernel_rfl) (tab [(26, firstC), (29, rangesC), (32, whenC)]) (tab_ok ⟨qFirst_ok, rRanges_ok, qWhen_ok, trivial⟩) G0_ok fun k0 rl args hpu hpre => ?_
  unfold sharesC at hpre ⊢
  split at hpre
  rotate_left
  · exact hpre.elim
  rename_i n sz g
  obtain ⟨rfl, hi⟩ := hpre
  have hp := hi.pu
  simp only [Proofs.Try.f28]
  simp (maxSteps := 4000000) only [go_sem, ↓op_move, ↓op_assign, ↓op_pick, ↓op_alloc, ↓op_box, ↓op_build, ↓op_buildSlice, ↓op_load, ↓op_store, ↓op_nilCheck, ↓op_bin, ↓op_un, ↓op_convert, ↓op_makeFunc, ↓op_makeSlice, ↓op_slice, ↓op_fieldAddr, ↓op_field, ↓op_indexAddr, ↓op_index, ↓op_extract, ↓op_range, ↓op_next, ↓op_call, ↓op_builtin, ↓g_tt, ↓g_ff, ↓g_tf, ↓g_ft, ↓g_tnt, ↓g_tnf, ↓g_fnt, ↓g_fnf, hp]
  refine ⟨hi, fun h => VEnt.of_eq ?_, fun h1 => ?_⟩
  · have h : sharesE0 n g ≠ 0 := by simpa [sharesE0] using h
    simp only [sharesE, if_pos h]; rfl
  · have h1 : sharesE0 n g = 0 := by simpa [sharesE0] using h1
    have hs := sharesE0_zero.1 h1
    have he : sharesE n g = err (!decide (sumI (intAt g) n = 1000)) 1 := by simp only [sharesE, h1, ne_eq, not_true_eq_false, if_false]
    refine RestT.loopI (β := Nat) [21, 22, 23, 24, 25, 26, 27, 28, 29, 30, 31, 32] (fun i => [(4, .int .i64 (sumI (intAt g) i)), (5, .int .i64 i)]) (fun _ => fun _ => none) (fun i => i ≤ n) (fun i => n - i) 0 (Nat.zero_le _) ?_ HpLe.none ?_
    · simp (maxSteps := 4000000) only [go_sem, ↓op_move, ↓op_assign, ↓op_pick, ↓op_alloc, ↓op_box, ↓op_build, ↓op_buildSlice, ↓op_load, ↓op_store, ↓op_nilCheck, ↓op_bin, ↓op_un, ↓op_convert, ↓op_makeFunc, ↓op_makeSlice, ↓op_slice, ↓op_fieldAddr, ↓op_field, ↓op_indexAddr, ↓op_index, ↓op_extract, ↓op_range, ↓op_next, ↓op_call, ↓op_builtin, ↓g_tt, ↓g_ff, ↓g_tf, ↓g_ft, ↓g_tnt, ↓g_tnf, ↓g_fnt, ↓g_fnf]
      simp [sumI]
    · intro ck i hck hle
      simp (maxSteps := 4000000) only [go_sem, ↓op_move, ↓op_assign, ↓op_pick, ↓op_alloc, ↓op_box, ↓op_build, ↓op_buildSlice, ↓op_load, ↓op_store, ↓op_nilCheck, ↓op_bin, ↓op_un, ↓op_convert, ↓op_makeFunc, ↓op_makeSlice, ↓op_slice, ↓op_fieldAddr, ↓op_field, ↓op_indexAddr, ↓op_index, ↓op_extract, ↓op_range, ↓op_next, ↓op_call, ↓op_builtin, ↓g_tt, ↓g_ff, ↓g_tf, ↓g_ft, ↓g_tnt, ↓g_tnf, ↓g_fnt, ↓g_fnf]
      refine ⟨fun hlt => ?_, fun hge => ?_⟩
      · have hlt : i < n := by omega
        have hg := hi.2 i hlt
        have hb := sumI_bd (f := intAt g) (a := 0) (b := 1000) (n := i + 1) fun j hj => hs.2.2 j (by omega)
        simp only [sumI] at hb
        simp (maxSteps := 4000000) only [go_sem, ↓op_move, ↓op_assign, ↓op_pick, ↓op_alloc, ↓op_box, ↓op_build, ↓op_buildSlice, ↓op_load, ↓op_store, ↓op_nilCheck, ↓op_bin, ↓op_un, ↓op_convert, ↓op_makeFunc, ↓op_makeSlice, ↓op_slice, ↓op_fieldAddr, ↓op_field, ↓op_indexAddr, ↓op_index, ↓op_extract, ↓op_range, ↓op_next, ↓op_call, ↓op_builtin, ↓g_tt, ↓g_ff, ↓g_tf, ↓g_ft, ↓g_tnt, ↓g_tnf, ↓g_fnt, ↓g_fnf, hg]
        refine ⟨by omega, inK_of (by omega) (by omega), inK_of (by omega) (by omega), by omega, i + 1, hlt, by omega, ⟨.inr rfl, .inr rfl⟩, HpLe.none⟩
      · have : i = n := by omega
        subst this
        exact VEnt.of_eq (by rw [he])

theorem rSquares_ok : Holds Proofs.Try.prog G0 31 squaresC := by
  refine Holds.of_exC D31 Proofs.Try.func31 rfl foll (by kernel_rfl) (tab [(26, firstC), (29, rangesC), (32, whenC)]) (tab_ok ⟨qFirst_ok, rRanges_ok, qWhen_ok, trivial⟩) G0_ok fun k0 rl args hpu hpre => ?_
  unfold squaresC at hpre ⊢
  split at hpre
  rotate_left
  · exact hpre.elim
  rename_i n sz g
  obtain ⟨rfl, hi⟩ := hpre
  have hp := hi.pu
  simp only [Proofs.Try.f31]
  simp (maxSteps := 4000000) only [go_sem, ↓op_move, ↓op_assign, ↓op_pick, ↓op_alloc, ↓op_box, ↓op_build, ↓op_buildSlice, ↓op_load, ↓op_store, ↓op_nilCheck, ↓op_bin, ↓op_un, ↓op_convert, ↓op_makeFunc, ↓op_makeSlice, ↓op_slice, ↓op_fieldAddr, ↓op_field, ↓op_indexAddr, ↓op_index, ↓op_extract, ↓op_range, ↓op_next, ↓op_call, ↓op_builtin, ↓g_tt, ↓g_ff, ↓g_tf, ↓g_ft, ↓g_tnt, ↓g_tnf, ↓g_fnt, ↓g_fnf, hp]
  refine ⟨hi, fun h => VEnt.of_eq ?_, fun h1 => ?_⟩
  · have h : squaresE0 n g ≠ 0 := by simpa [squaresE0] using h
    simp only [squaresE, if_pos h]; rfl
  · have h1 : squaresE0 n g = 0 := by simpa [squaresE0] using h1
    have hs := squaresE0_zero.1 h1
    have he : squaresE n g = firstI (fun i => err (sqBad g i) 11) 0 n := by simp only [squaresE, h1, ne_eq, not_true_eq_false, if_false]
    refine RestT.loopI (β := Nat) [2, 20, 21, 22, 23, 24, 25, 26, 27, 28, 29, 30, 31, 32, 33, 34, 35, 36, 37, 38, 39, 40, 41, 42, 43, 44, 45, 46, 47, 48, 49, 50, 51] (fun i => [(4, .int .i64 i)]) (fun _ => fun _ => none) (fun i => i ≤ n ∧ squaresE n g = firstI (fun i => err (sqBad g i) 11) i (n - i)) (fun i => n - i) 0 ⟨by omega, by simp [he]⟩ ?_ HpLe.none ?_
    · simp (maxSteps := 4000000) only [go_sem, ↓op_move, ↓op_assign, ↓op_pick, ↓op_alloc, ↓op_box, ↓op_build, ↓op_buildSlice, ↓op_load, ↓op_store, ↓op_nilCheck, ↓op_bin, ↓op_un, ↓op_convert, ↓op_makeFunc, ↓op_makeSlice, ↓op_slice, ↓op_fieldAddr, ↓op_field, ↓op_indexAddr, ↓op_index, ↓op_extract, ↓op_range, ↓op_next, ↓op_call, ↓op_builtin, ↓g_tt, ↓g_ff, ↓g_tf, ↓g_ft, ↓g_tnt, ↓g_tnf, ↓g_fnt, ↓g_fnf]
    · intro ck i hck hI
      generalize hq : exC _ _ _ _ _ = gg
      have hle := hI.1
      have hf := hI.2
      by_cases hlt : i < n
      · rw [firstI_step hlt] at hf
        have hg := hi.2 i hlt
        have hd : decide ((i : Int) < (n : Int)) = true := by simp; omega
        rcases Nat.eq_zero_or_pos i with rfl | hpos
        · rw [← hq]
          clear hq
          simp (maxSteps := 4000000) only [go_sem, ↓op_move, ↓op_assign, ↓op_pick, ↓op_alloc, ↓op_box, ↓op_build, ↓op_buildSlice, ↓op_load, ↓op_store, ↓op_nilCheck, ↓op_bin, ↓op_un, ↓op_convert, ↓op_makeFunc, ↓op_makeSlice, ↓op_slice, ↓op_fieldAddr, ↓op_field, ↓op_indexAddr, ↓op_index, ↓op_extract, ↓op_range, ↓op_next, ↓op_call, ↓op_builtin, ↓g_tt, ↓g_ff, ↓g_tf, ↓g_ft, ↓g_tnt, ↓g_tnf, ↓g_fnt, ↓g_fnf, hg, hd]
          refine ⟨fun _ => ⟨by omega, fun h => ⟨inK_of (by omega) (by omega), by omega, 1, ⟨by omega, ?_⟩, by omega, .inr rfl, HpLe.none⟩, fun h => VEnt.of_eq ?_⟩, fun h => absurd h (by omega)⟩
          · simp at h
            rw [hf, if_neg (by simp [sqBad, err, h])]
          · simp at h
            rw [hf, if_pos (by simp [sqBad, err, h])]
            simp [sqBad, err, h]
        · have hg1 := hi.2 (i - 1) (by omega)
          have f1 : decide ((i : Int) = 0) = false := by simp; omega
          have f2 : decide ((0 : Int) < (i : Int)) = true := by simp; omega
          have f3 : Int.toNat (max 0 ((i : Int) - 1)) = i - 1 := by omega
          rw [← hq]
          clear hq
          simp (maxSteps := 4000000) only [go_sem, ↓op_move, ↓op_assign, ↓op_pick, ↓op_alloc, ↓op_box, ↓op_build, ↓op_buildSlice, ↓op_load, ↓op_store, ↓op_nilCheck, ↓op_bin, ↓op_un, ↓op_convert, ↓op_makeFunc, ↓op_makeSlice, ↓op_slice, ↓op_fieldAddr, ↓op_field, ↓op_indexAddr, ↓op_index, ↓op_extract, ↓op_range, ↓op_next, ↓op_call, ↓op_builtin, ↓g_tt, ↓g_ff, ↓g_tf, ↓g_ft, ↓g_tnt, ↓g_tnf, ↓g_fnt, ↓g_fnf, hg, hd, f1, f2, f3, hg1]
          have hz : ¬ i = 0 := by omega
          refine ⟨by omega, inK_of (by omega) (by omega), by omega, fun h => VEnt.of_eq ?_, fun h => ⟨inK_of (by omega) (by omega), by omega, i + 1, ⟨by omega, ?_⟩, by omega, .inr rfl, HpLe.none⟩⟩
          · rw [hf, if_pos (by simp [sqBad, err, h, hz])]
            simp [sqBad, err, h, hz]
          · rw [hf, if_neg (by simp [sqBad, err, h, hz])]
      · have hd : decide ((i : Int) < (n : Int)) = false := by simp; omega
        rw [← hq]
        clear hq
        simp (maxSteps := 4000000) only [go_sem, ↓op_move, ↓op_assign, ↓op_pick, ↓op_alloc, ↓op_box, ↓op_build, ↓op_buildSlice, ↓op_load, ↓op_store, ↓op_nilCheck, ↓op_bin, ↓op_un, ↓op_convert, ↓op_makeFunc, ↓op_makeSlice, ↓op_slice, ↓op_fieldAddr, ↓op_field, ↓op_indexAddr, ↓op_index, ↓op_extract, ↓op_range, ↓op_next, ↓op_call, ↓op_builtin, ↓g_tt, ↓g_ff, ↓g_tf, ↓g_ft, ↓g_tnt, ↓g_tnf, ↓g_fnt, ↓g_fnf, hd]
        rw [hf, firstI_end hlt]
        exact VEnt.of_eq rfl
end Go.Fly.Try
