/- Types in the reference; simple functions of the sources. -/
import Derived.Test.YtlfciglmhomdpaaSBG
import Derived.Test.YtlfciglmhomdpaaSBE
import Derived.Test.YtlfciglmhomdpaaAJ
set_option linter.unusedSimpArgs false
set_option linter.unusedVariables false
set_option maxRecDepth 100000
set_option maxHeartbeats 1000000
namespace Go.Fly.Try
open Go

theorem rType_ok : Holds Proofs.Try.prog G0 13 typeC := by
  refine Holds.of_exC D13 Proofs.Try.func13 rfl foll (by kernel_rfl) (tab [(26, firstC), (27, checkNameC), (28, sharesC), (29, rangesC), (30, withinC), (31, squaresC), (32, whenC), (33, settingC), (iceKey 1, iceC)]) (tab_ok ⟨qFirst_ok, qCheckName_ok, rShares_ok, rRanges_ok, qRange_ok, rSquares_ok, qWhen_ok, rSetting_ok, ice_holds, trivial⟩) G0_ok fun k0 rl args hpu hpre => ?_
  unfold typeC at hpre ⊢
  split at hpre
  rotate_left
  · exact hpre.elim
  rename_i s ns zs gs d0 d1 d2 d3 d4 d5 d6 d7 side nq zq gq m zt gt
  obtain ⟨rfl, rfl, rfl, hs, hq, ht, hsl⟩ := hpre
  have hp1 := hs.pu
  have hp2 := hq.pu
  have hp3 := ht.pu
  simp only [Proofs.Try.f13]
  simp (maxSteps := 4000000) only [go_sem, ↓op_move, ↓op_assign, ↓op_pick, ↓op_alloc, ↓op_box, ↓op_build, ↓op_buildSlice, ↓op_load, ↓op_store, ↓op_nilCheck, ↓op_bin, ↓op_un, ↓op_convert, ↓op_makeFunc, ↓op_makeSlice, ↓op_slice, ↓op_fieldAddr, ↓op_field, ↓op_indexAddr, ↓op_index, ↓op_extract, ↓op_range, ↓op_next, ↓op_call, ↓op_builtin, ↓g_tt, ↓g_ff, ↓g_tf, ↓g_ft, ↓g_tnt, ↓g_tnf, ↓g_fnt, ↓g_fnf, hp1, hp2, hp3]
  refine RestT.loopI (β := Nat) [9, 10, 11, 12, 13, 14, 15, 16, 17, 18, 19] (fun i => [(3, .msl (3, 8) 0 i), (4, .int .i64 i)]) (fun i => updH (fun _ => none) (3, 8) (.arr i 1 (fun k => [.int .i64 (dirAt d0 d1 d2 d3 d4 d5 d6 d7 k)]))) (fun i => i ≤ 8) (fun i => 8 - i) 0 (Nat.zero_le _) ?_
    (HpLe.arr1 (updH_same _ _ _) rfl rfl fun i hi => by omega) ?_
  · simp (maxSteps := 4000000) only [go_sem, ↓op_move, ↓op_assign, ↓op_pick, ↓op_alloc, ↓op_box, ↓op_build, ↓op_buildSlice, ↓op_load, ↓op_store, ↓op_nilCheck, ↓op_bin, ↓op_un, ↓op_convert, ↓op_makeFunc, ↓op_makeSlice, ↓op_slice, ↓op_fieldAddr, ↓op_field, ↓op_indexAddr, ↓op_index, ↓op_extract, ↓op_range, ↓op_next, ↓op_call, ↓op_builtin, ↓g_tt, ↓g_ff, ↓g_tf, ↓g_ft, ↓g_tnt, ↓g_tnf, ↓g_fnt, ↓g_fnf]
    try simp
  · intro ck i hck hi
    generalize hq0 : exC _ _ _ _ _ = gg
    by_cases hlt : i < 8
    · have hd : decide ((i : Int) < 8) = true := by simp; omega
      rw [← hq0]
      clear hq0
      simp (maxSteps := 4000000) only [go_sem, ↓op_move, ↓op_assign, ↓op_pick, ↓op_alloc, ↓op_box, ↓op_build, ↓op_buildSlice, ↓op_load, ↓op_store, ↓op_nilCheck, ↓op_bin, ↓op_un, ↓op_convert, ↓op_makeFunc, ↓op_makeSlice, ↓op_slice, ↓op_fieldAddr, ↓op_field, ↓op_indexAddr, ↓op_index, ↓op_extract, ↓op_range, ↓op_next, ↓op_call, ↓op_builtin, ↓g_tt, ↓g_ff, ↓g_tf, ↓g_ft, ↓g_tnt, ↓g_tnf, ↓g_fnt, ↓g_fnf, hd, Nat.mul_one, dirAt_dropT hlt, hp1, hp2, hp3]
      refine ⟨by omega, ⟨by omega, by omega, row_ok rfl ones1⟩, inK_of (by omega) (by omega), by omega, i + 1, hlt, by omega, ⟨.inr rfl, .inr rfl⟩, ?_⟩
      refine HpLe.upd HpLe.none ⟨_, updH_same _ _ _, rfl, rfl, fun j hj => snoc (f := fun i => [V.int .i64 (dirAt d0 d1 d2 d3 d4 d5 d6 d7 i)]) rfl rfl hj⟩
    · have hd : decide ((i : Int) < 8) = false := by simp; omega
      obtain rfl : i = 8 := by omega
      rw [← hq0]
      clear hq0
      simp (maxSteps := 4000000) only [go_sem, ↓op_move, ↓op_assign, ↓op_pick, ↓op_alloc, ↓op_box, ↓op_build, ↓op_buildSlice, ↓op_load, ↓op_store, ↓op_nilCheck, ↓op_bin, ↓op_un, ↓op_convert, ↓op_makeFunc, ↓op_makeSlice, ↓op_slice, ↓op_fieldAddr, ↓op_field, ↓op_indexAddr, ↓op_index, ↓op_extract, ↓op_range, ↓op_next, ↓op_call, ↓op_builtin, ↓g_tt, ↓g_ff, ↓g_tf, ↓g_ft, ↓g_tnt, ↓g_tnf, ↓g_fnt, ↓g_fnf, hd, hp1, hp2, hp3]
      have he0 : firstL [err (!nameB s) 8, sharesE ns gs, rngs 8 (fun i => [V.int .i64 (dirAt d0 d1 d2 d3 d4 d5 d6 d7 ((0 + i : Nat)))]) 0 2000, rng side 0 1000, squaresE nq gq, err (decide ((m : Int) = 0)) 12, err (decide (6 < (m : Int))) 5] = typeE0 s ns gs (dirAt d0 d1 d2 d3 d4 d5 d6 d7) side nq gq m := by
        simp only [Nat.zero_add]
        rfl
      rw [he0]
      refine ⟨hsl, hs, isInts_fn _ (by decide), hq, fun h => VEnt.of_eq ?_, fun h => ?_⟩
      · have h : typeE0 s ns gs (dirAt d0 d1 d2 d3 d4 d5 d6 d7) side nq gq m ≠ 0 := by simpa using h
        simp only [typeE, if_pos h]
      · have h : typeE0 s ns gs (dirAt d0 d1 d2 d3 d4 d5 d6 d7) side nq gq m = 0 := by simpa using h
        have he : typeE s ns gs (dirAt d0 d1 d2 d3 d4 d5 d6 d7) side nq gq m gt = firstI (fun i => setE nq gt i) 0 m := by simp only [typeE, h, ne_eq, not_true_eq_false, if_false]
        refine RestT.loopI (β := Nat) [2, 7, 49, 50, 51, 52, 53, 54, 55, 56, 57, 58, 59, 60, 61] (fun i => [(6, .int .i64 i)]) (fun _ => _) (fun i => i ≤ m ∧ typeE s ns gs (dirAt d0 d1 d2 d3 d4 d5 d6 d7) side nq gq m gt = firstI (fun i => setE nq gt i) i (m - i) ∧ ∀ j, j < i → setE nq gt j = 0) (fun i => m - i) 0 ⟨by omega, by simp [he], fun j hj => by omega⟩ ?_ (HpLe.refl _) ?_
        · simp (maxSteps := 4000000) only [go_sem, ↓op_move, ↓op_assign, ↓op_pick, ↓op_alloc, ↓op_box, ↓op_build, ↓op_buildSlice, ↓op_load, ↓op_store, ↓op_nilCheck, ↓op_bin, ↓op_un, ↓op_convert, ↓op_makeFunc, ↓op_makeSlice, ↓op_slice, ↓op_fieldAddr, ↓op_field, ↓op_indexAddr, ↓op_index, ↓op_extract, ↓op_range, ↓op_next, ↓op_call, ↓op_builtin, ↓g_tt, ↓g_ff, ↓g_tf, ↓g_ft, ↓g_tnt, ↓g_tnf, ↓g_fnt, ↓g_fnf]
          try simp
        · intro ck2 i hck2 hI
          have hle := hI.1
          have hf := hI.2.1
          have hz := hI.2.2
          have hm := ht.1
          simp (maxSteps := 4000000) only [go_sem, ↓op_move, ↓op_assign, ↓op_pick, ↓op_alloc, ↓op_box, ↓op_build, ↓op_buildSlice, ↓op_load, ↓op_store, ↓op_nilCheck, ↓op_bin, ↓op_un, ↓op_convert, ↓op_makeFunc, ↓op_makeSlice, ↓op_slice, ↓op_fieldAddr, ↓op_field, ↓op_indexAddr, ↓op_index, ↓op_extract, ↓op_range, ↓op_next, ↓op_call, ↓op_builtin, ↓g_tt, ↓g_ff, ↓g_tf, ↓g_ft, ↓g_tnt, ↓g_tnf, ↓g_fnt, ↓g_fnf, hp1, hp2, hp3]
          refine ⟨fun hlt => ?_, fun hge => ?_⟩
          · have hlt : i < m := by omega
            rw [firstI_step hlt] at hf
            refine ⟨⟨hs, hq, ht, by omega, by omega, fun hi0 => ?_⟩, fun h => VEnt.of_eq ?_, fun h => ⟨inK_of (by omega) (by omega), by omega, i + 1, ⟨hlt, ?_, fun j hj => ?_⟩, by omega, .inr rfl, HpLe.refl _⟩⟩
            · have := (setE0_zero.1 (setE_zero.1 (hz (i - 1) (by omega))).1).2.2.1
              exact this
            · simp at h
              rw [hf, if_pos h]
            · simp at h
              rw [hf, if_neg (by simpa using h)]
            · rcases Nat.lt_or_ge j i with e | e
              · exact hz j e
              · obtain rfl : j = i := by omega
                simpa using h
          · rw [hf, firstI_end (by omega)]
            exact VEnt.of_eq rfl
end Go.Fly.Try
