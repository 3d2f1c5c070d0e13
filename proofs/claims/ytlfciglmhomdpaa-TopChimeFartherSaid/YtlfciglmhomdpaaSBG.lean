/- Settings, types, states: the reference. -/
import Derived.Test.YtlfciglmhomdpaaSBF
set_option linter.unusedSimpArgs false
set_option linter.unusedVariables false
set_option maxRecDepth 100000
set_option maxHeartbeats 1000000
namespace Go.Fly.Try
open Go

theorem rState_ok : Holds Proofs.Try.prog G0 16 stateC := by
  refine Holds.of_exC D16 Proofs.Try.func16 rfl foll (by kernel_rfl) (tab [(26, firstC), (35, pointC 100000 20000), (36, dirC 200000), (37, int1C (fun n => rng n 1 100)), (iceKey 1, iceC)]) (tab_ok ⟨qFirst_ok, rPlace_ok, rDir_ok, rPower_ok, ice_holds, trivial⟩) G0_ok fun k0 rl args hpu hpre => ?_
  unfold stateC at hpre ⊢
  split at hpre
  rotate_left
  · exact hpre.elim
  simp only [Proofs.Try.f16]
  simp (maxSteps := 4000000) only [go_sem, ↓op_move, ↓op_assign, ↓op_pick, ↓op_alloc, ↓op_box, ↓op_build, ↓op_buildSlice, ↓op_load, ↓op_store, ↓op_nilCheck, ↓op_bin, ↓op_un, ↓op_convert, ↓op_makeFunc, ↓op_makeSlice, ↓op_slice, ↓op_fieldAddr, ↓op_field, ↓op_indexAddr, ↓op_index, ↓op_extract, ↓op_range, ↓op_next, ↓op_call, ↓op_builtin, ↓g_tt, ↓g_ff, ↓g_tf, ↓g_ft, ↓g_tnt, ↓g_tnf, ↓g_fnt, ↓g_fnf]
  exact VEnt.of_eq rfl

theorem rAirShort_ok : Holds Proofs.Try.prog G0 14 shortAirC := by
  refine Holds.of_exC D14 Proofs.Try.func14 rfl foll (by kernel_rfl) (tab []) (tab_ok trivial) G0_ok fun k0 rl args hpu hpre => ?_
  unfold shortAirC at hpre ⊢
  split at hpre
  rotate_left
  · exact hpre.elim
  rename_i n sz get
  obtain ⟨rfl, hair⟩ := hpre
  simp only [Proofs.Try.f14]
  simp (maxSteps := 4000000) only [go_sem, ↓op_move, ↓op_assign, ↓op_pick, ↓op_alloc, ↓op_box, ↓op_build, ↓op_buildSlice, ↓op_load, ↓op_store, ↓op_nilCheck, ↓op_bin, ↓op_un, ↓op_convert, ↓op_makeFunc, ↓op_makeSlice, ↓op_slice, ↓op_fieldAddr, ↓op_field, ↓op_indexAddr, ↓op_index, ↓op_extract, ↓op_range, ↓op_next, ↓op_call, ↓op_builtin, ↓g_tt, ↓g_ff, ↓g_tf, ↓g_ft, ↓g_tnt, ↓g_tnf, ↓g_fnt, ↓g_fnf]
  refine RestT.loopI (β := Nat) [2, 4, 5, 6, 7, 8, 9, 10, 11, 12, 13, 14, 15, 16] (fun i => [(3, .int .i64 i)]) (fun _ => fun _ => none) (fun i => i ≤ n ∧ ∀ j, j < i → inN get j 4 ≤ 9) (fun i => n - i) 0 ⟨by omega, fun j hj => by omega⟩ ?_ HpLe.none ?_
  · simp (maxSteps := 4000000) only [go_sem, ↓op_move, ↓op_assign, ↓op_pick, ↓op_alloc, ↓op_box, ↓op_build, ↓op_buildSlice, ↓op_load, ↓op_store, ↓op_nilCheck, ↓op_bin, ↓op_un, ↓op_convert, ↓op_makeFunc, ↓op_makeSlice, ↓op_slice, ↓op_fieldAddr, ↓op_field, ↓op_indexAddr, ↓op_index, ↓op_extract, ↓op_range, ↓op_next, ↓op_call, ↓op_builtin, ↓g_tt, ↓g_ff, ↓g_tf, ↓g_ft, ↓g_tnt, ↓g_tnf, ↓g_fnt, ↓g_fnf]
  · intro ck i hck hI
    have hi := hI.1
    have hf := hI.2
    simp (maxSteps := 4000000) only [go_sem, ↓op_move, ↓op_assign, ↓op_pick, ↓op_alloc, ↓op_box, ↓op_build, ↓op_buildSlice, ↓op_load, ↓op_store, ↓op_nilCheck, ↓op_bin, ↓op_un, ↓op_convert, ↓op_makeFunc, ↓op_makeSlice, ↓op_slice, ↓op_fieldAddr, ↓op_field, ↓op_indexAddr, ↓op_index, ↓op_extract, ↓op_range, ↓op_next, ↓op_call, ↓op_builtin, ↓g_tt, ↓g_ff, ↓g_tf, ↓g_ft, ↓g_tnt, ↓g_tnf, ↓g_fnt, ↓g_fnf]
    refine ⟨fun hlt => ?_, fun hge => ?_⟩
    · have hlt : i < n := by omega
      obtain ⟨hg, hiv⟩ := hair.2 i hlt
      have hn := hair.1
      simp (maxSteps := 4000000) only [go_sem, ↓op_move, ↓op_assign, ↓op_pick, ↓op_alloc, ↓op_box, ↓op_build, ↓op_buildSlice, ↓op_load, ↓op_store, ↓op_nilCheck, ↓op_bin, ↓op_un, ↓op_convert, ↓op_makeFunc, ↓op_makeSlice, ↓op_slice, ↓op_fieldAddr, ↓op_field, ↓op_indexAddr, ↓op_index, ↓op_extract, ↓op_range, ↓op_next, ↓op_call, ↓op_builtin, ↓g_tt, ↓g_ff, ↓g_tf, ↓g_ft, ↓g_tnt, ↓g_tnf, ↓g_fnt, ↓g_fnf, hg]
      refine ⟨by omega, fun h => VEnt.of_eq ?_, fun h => ⟨inK_of (by omega) (by omega), i + 1, ⟨by omega, fun j hj => ?_⟩, by omega, .inr rfl, HpLe.none⟩⟩
      · have : ¬ ∀ i, i < n → inN get i 4 ≤ 9 := fun q => by have := q i hlt; omega
        simp [shortAirB, this]
      · rcases Nat.lt_or_ge j i with e | e
        · exact hf j e
        · obtain rfl : j = i := by omega
          omega
    · have : ∀ i, i < n → inN get i 4 ≤ 9 := fun i hi => hf i (by omega)
      exact VEnt.of_eq (by rw [shortAirB, decide_eq_true this, Bool.true_and])

theorem rShort_ok : Holds Proofs.Try.prog G0 12 shortC := by
  refine Holds.of_exC D12 Proofs.Try.func12 rfl foll (by kernel_rfl) (tab [(iceKey 1, iceC)]) (tab_ok ⟨ice_holds, trivial⟩) G0_ok fun k0 rl args hpu hpre => ?_
  unfold shortC at hpre ⊢
  split at hpre
  rotate_left
  · exact hpre.elim
  rename_i s ns zs gs d0 d1 d2 d3 d4 d5 d6 d7 side nq zq gq m zt gt
  obtain ⟨rfl, rfl, rfl, hs, hq, ht⟩ := hpre
  have hp1 := hs.pu
  have hp2 := hq.pu
  have hp3 := ht.pu
  simp only [Proofs.Try.f12]
  simp (maxSteps := 4000000) only [go_sem, ↓op_move, ↓op_assign, ↓op_pick, ↓op_alloc, ↓op_box, ↓op_build, ↓op_buildSlice, ↓op_load, ↓op_store, ↓op_nilCheck, ↓op_bin, ↓op_un, ↓op_convert, ↓op_makeFunc, ↓op_makeSlice, ↓op_slice, ↓op_fieldAddr, ↓op_field, ↓op_indexAddr, ↓op_index, ↓op_extract, ↓op_range, ↓op_next, ↓op_call, ↓op_builtin, ↓g_tt, ↓g_ff, ↓g_tf, ↓g_ft, ↓g_tnt, ↓g_tnf, ↓g_fnt, ↓g_fnf, hp1, hp2, hp3]
  refine RestT.loopI (β := Nat) [2, 4, 5, 6, 7, 8, 9, 10, 11, 12, 13, 14, 15, 16, 17, 18] (fun i => [(3, .int .i64 i)]) (fun _ => fun _ => none) (fun i => i ≤ m ∧ ∀ j, j < i → inN gt j 1 ≤ 9) (fun i => m - i) 0 ⟨by omega, fun j hj => by omega⟩ ?_ HpLe.none ?_
  · simp (maxSteps := 4000000) only [go_sem, ↓op_move, ↓op_assign, ↓op_pick, ↓op_alloc, ↓op_box, ↓op_build, ↓op_buildSlice, ↓op_load, ↓op_store, ↓op_nilCheck, ↓op_bin, ↓op_un, ↓op_convert, ↓op_makeFunc, ↓op_makeSlice, ↓op_slice, ↓op_fieldAddr, ↓op_field, ↓op_indexAddr, ↓op_index, ↓op_extract, ↓op_range, ↓op_next, ↓op_call, ↓op_builtin, ↓g_tt, ↓g_ff, ↓g_tf, ↓g_ft, ↓g_tnt, ↓g_tnf, ↓g_fnt, ↓g_fnf]
  · intro ck i hck hI
    have hi := hI.1
    have hf := hI.2
    simp (maxSteps := 4000000) only [go_sem, ↓op_move, ↓op_assign, ↓op_pick, ↓op_alloc, ↓op_box, ↓op_build, ↓op_buildSlice, ↓op_load, ↓op_store, ↓op_nilCheck, ↓op_bin, ↓op_un, ↓op_convert, ↓op_makeFunc, ↓op_makeSlice, ↓op_slice, ↓op_fieldAddr, ↓op_field, ↓op_indexAddr, ↓op_index, ↓op_extract, ↓op_range, ↓op_next, ↓op_call, ↓op_builtin, ↓g_tt, ↓g_ff, ↓g_tf, ↓g_ft, ↓g_tnt, ↓g_tnf, ↓g_fnt, ↓g_fnf]
    refine ⟨fun hlt => ?_, fun hge => ?_⟩
    · have hlt : i < m := by omega
      obtain ⟨hg, hiv⟩ := ht.2 i hlt
      have hn := ht.1
      simp (maxSteps := 4000000) only [go_sem, ↓op_move, ↓op_assign, ↓op_pick, ↓op_alloc, ↓op_box, ↓op_build, ↓op_buildSlice, ↓op_load, ↓op_store, ↓op_nilCheck, ↓op_bin, ↓op_un, ↓op_convert, ↓op_makeFunc, ↓op_makeSlice, ↓op_slice, ↓op_fieldAddr, ↓op_field, ↓op_indexAddr, ↓op_index, ↓op_extract, ↓op_range, ↓op_next, ↓op_call, ↓op_builtin, ↓g_tt, ↓g_ff, ↓g_tf, ↓g_ft, ↓g_tnt, ↓g_tnf, ↓g_fnt, ↓g_fnf, hg]
      refine ⟨by omega, fun h => VEnt.of_eq ?_, fun h => ⟨inK_of (by omega) (by omega), i + 1, ⟨by omega, fun j hj => ?_⟩, by omega, .inr rfl, HpLe.none⟩⟩
      · have : ¬ ∀ i, i < m → inN gt i 1 ≤ 9 := fun q => by have := q i hlt; omega
        simp [shortB, this]
      · rcases Nat.lt_or_ge j i with e | e
        · exact hf j e
        · obtain rfl : j = i := by omega
          omega
    · have : ∀ i, i < m → inN gt i 1 ≤ 9 := fun i hi => hf i (by omega)
      have he : shortB s ns nq m gt = (decide ((s.length : Int) ≤ 40) && decide ((ns : Int) ≤ 9) && decide ((nq : Int) ≤ 9) && decide ((m : Int) ≤ 7)) := by rw [shortB, decide_eq_true this, Bool.true_and]
      rw [he]
      refine ⟨fun h1 => ⟨fun h2 => ⟨fun h3 => VEnt.of_eq ?_, fun h3 => VEnt.of_eq ?_⟩, fun h2 => VEnt.of_eq ?_⟩, fun h1 => VEnt.of_eq ?_⟩
      · rw [decide_eq_true h1, decide_eq_true h2, decide_eq_true h3]; rfl
      · rw [decide_eq_false h3, Bool.and_false, Bool.false_and]
      · rw [decide_eq_false h2, Bool.and_false, Bool.false_and, Bool.false_and]
      · rw [decide_eq_false h1, Bool.false_and, Bool.false_and, Bool.false_and]

theorem rSetting_ok : Holds Proofs.Try.prog G0 33 settingC := by
  refine Holds.of_exC D33 Proofs.Try.func33 rfl foll (by kernel_rfl) (tab [(26, firstC), (29, rangesC), (32, whenC), (37, int1C (fun n => rng n 1 100)), (iceKey 2, iceC)]) (tab_ok ⟨qFirst_ok, rRanges_ok, qWhen_ok, rPower_ok, ice_holds, trivial⟩) G0_ok fun k0 rl args hpu hpre => ?_
  unfold settingC at hpre ⊢
  split at hpre
  rotate_left
  · exact hpre.elim
  rename_i s ns zs gs d0 d1 d2 d3 d4 d5 d6 d7 side nq zq gq m zt gt i
  obtain ⟨rfl, rfl, rfl, hs, hq, ht, hi0, him, hprev⟩ := hpre
  have hp1 := hs.pu
  have hp2 := hq.pu
  have hp3 := ht.pu
  obtain ⟨i, rfl⟩ := Int.eq_ofNat_of_zero_le hi0
  obtain ⟨hg, hiv⟩ := ht.2 i (by omega)
  obtain ⟨hg1, hiv1⟩ := ht.2 (i - 1) (by omega)
  have hm := ht.1
  have hvn := hiv.1
  have f3 : Int.toNat (max 0 ((i : Int) - 1)) = i - 1 := by omega
  have hp4 := hiv.pu
  have hp5 := hiv1.pu
  rcases Nat.eq_zero_or_pos i with rfl | hpos
  · have g0 : Int.toNat (max (0 : Int) (-1)) = 0 := rfl
    have heq : setE0 nq gt 0 = firstL [rng (cell gt 0 0) 1 100, err false 11, err (!decide ((inN gt 0 1 : Int) = (nq : Int))) 2, rngs (inN gt 0 1) (inG gt 0 1) 0 100000000] := rfl
    simp only [Proofs.Try.f33]
    simp (maxSteps := 4000000) only [go_sem, ↓op_move, ↓op_assign, ↓op_pick, ↓op_alloc, ↓op_box, ↓op_build, ↓op_buildSlice, ↓op_load, ↓op_store, ↓op_nilCheck, ↓op_bin, ↓op_un, ↓op_convert, ↓op_makeFunc, ↓op_makeSlice, ↓op_slice, ↓op_fieldAddr, ↓op_field, ↓op_indexAddr, ↓op_index, ↓op_extract, ↓op_range, ↓op_next, ↓op_call, ↓op_builtin, ↓g_tt, ↓g_ff, ↓g_tf, ↓g_ft, ↓g_tnt, ↓g_tnf, ↓g_fnt, ↓g_fnf, hp1, hp2, hp3, hg, hg1, g0, hp4, hp5]
    refine ⟨by omega, inK_of (by omega) (by omega), by omega, hiv, fun h => VEnt.of_eq ?_, fun h1 => ?_⟩
    · have h : setE0 nq gt 0 ≠ 0 := by rw [heq]; simpa using h
      simp only [setE, if_pos h]
      rw [heq]
    · have h1 : setE0 nq gt 0 = 0 := by rw [heq]; simpa using h1
      have hse := setE0_zero.1 h1
      have he : setE nq gt 0 = firstI (fun k => err (enBad gt 0 k) 21) 0 (inN gt 0 1) := by simp only [setE, h1, ne_eq, not_true_eq_false, if_false]
      refine RestT.loopI (β := Nat) [4, 50, 51, 52, 53, 54, 55, 56, 57, 58, 59, 60, 61, 62, 63, 64, 65, 66, 67, 68, 69, 70, 71, 72, 73, 74, 75, 76, 77, 78, 79, 80, 81, 82, 83, 84, 85, 86, 87, 88, 89, 90] (fun k => [(8, .int .i64 k)]) (fun _ => _) (fun k => k ≤ inN gt 0 1 ∧ setE nq gt 0 = firstI (fun k => err (enBad gt 0 k) 21) k (inN gt 0 1 - k)) (fun k => inN gt 0 1 - k) 0 ⟨by omega, by simp [he]⟩ ?_ (HpLe.refl _) ?_
      · simp (maxSteps := 4000000) only [go_sem, ↓op_move, ↓op_assign, ↓op_pick, ↓op_alloc, ↓op_box, ↓op_build, ↓op_buildSlice, ↓op_load, ↓op_store, ↓op_nilCheck, ↓op_bin, ↓op_un, ↓op_convert, ↓op_makeFunc, ↓op_makeSlice, ↓op_slice, ↓op_fieldAddr, ↓op_field, ↓op_indexAddr, ↓op_index, ↓op_extract, ↓op_range, ↓op_next, ↓op_call, ↓op_builtin, ↓g_tt, ↓g_ff, ↓g_tf, ↓g_ft, ↓g_tnt, ↓g_tnf, ↓g_fnt, ↓g_fnf]
      · intro ck k hck hI
        generalize hqq : exC _ _ _ _ _ = gg
        have hle := hI.1
        have hf := hI.2
        by_cases hlt : k < inN gt 0 1
        · rw [firstI_step hlt] at hf
          have hgk := hiv.2 k hlt
          have hd : decide ((k : Int) < (inN gt 0 1 : Int)) = true := by simp; omega
          rcases Nat.eq_zero_or_pos k with rfl | hkp
          · rw [← hqq]
            clear hqq
            simp (maxSteps := 4000000) only [go_sem, ↓op_move, ↓op_assign, ↓op_pick, ↓op_alloc, ↓op_box, ↓op_build, ↓op_buildSlice, ↓op_load, ↓op_store, ↓op_nilCheck, ↓op_bin, ↓op_un, ↓op_convert, ↓op_makeFunc, ↓op_makeSlice, ↓op_slice, ↓op_fieldAddr, ↓op_field, ↓op_indexAddr, ↓op_index, ↓op_extract, ↓op_range, ↓op_next, ↓op_call, ↓op_builtin, ↓g_tt, ↓g_ff, ↓g_tf, ↓g_ft, ↓g_tnt, ↓g_tnf, ↓g_fnt, ↓g_fnf, hp4, hp5, g0, hgk, hd]
            refine ⟨fun _ => ⟨inK_of (by omega) (by omega), by omega, 1, ⟨by omega, ?_⟩, by omega, .inr rfl, HpLe.refl _⟩, fun h => absurd h (by omega)⟩
            rw [hf, if_neg (by simp [enBad, err])]
          · have hgk1 := hiv.2 (k - 1) (by omega)
            have e1 : decide ((0 : Int) < (k : Int)) = true := by simp; omega
            have e2 : Int.toNat (max 0 ((k : Int) - 1)) = k - 1 := by omega
            rw [← hqq]
            clear hqq
            simp (maxSteps := 4000000) only [go_sem, ↓op_move, ↓op_assign, ↓op_pick, ↓op_alloc, ↓op_box, ↓op_build, ↓op_buildSlice, ↓op_load, ↓op_store, ↓op_nilCheck, ↓op_bin, ↓op_un, ↓op_convert, ↓op_makeFunc, ↓op_makeSlice, ↓op_slice, ↓op_fieldAddr, ↓op_field, ↓op_indexAddr, ↓op_index, ↓op_extract, ↓op_range, ↓op_next, ↓op_call, ↓op_builtin, ↓g_tt, ↓g_ff, ↓g_tf, ↓g_ft, ↓g_tnt, ↓g_tnf, ↓g_fnt, ↓g_fnf, hp4, hp5, g0, hgk, hgk1, e1, e2, hd]
            refine ⟨by omega, inK_of (by omega) (by omega), by omega, fun h => ⟨inK_of (by omega) (by omega), by omega, k + 1, ⟨by omega, ?_⟩, by omega, .inr rfl, HpLe.refl _⟩, fun h => VEnt.of_eq ?_⟩
            · rw [hf, if_neg (by simp [enBad, err, h])]
            · rw [hf, if_pos (by simp [enBad, err, h, hkp])]
              simp [enBad, err, h, hkp]
        · have hd : decide ((k : Int) < (inN gt 0 1 : Int)) = false := by simp; omega
          rw [← hqq]
          clear hqq
          simp (maxSteps := 4000000) only [go_sem, ↓op_move, ↓op_assign, ↓op_pick, ↓op_alloc, ↓op_box, ↓op_build, ↓op_buildSlice, ↓op_load, ↓op_store, ↓op_nilCheck, ↓op_bin, ↓op_un, ↓op_convert, ↓op_makeFunc, ↓op_makeSlice, ↓op_slice, ↓op_fieldAddr, ↓op_field, ↓op_indexAddr, ↓op_index, ↓op_extract, ↓op_range, ↓op_next, ↓op_call, ↓op_builtin, ↓g_tt, ↓g_ff, ↓g_tf, ↓g_ft, ↓g_tnt, ↓g_tnf, ↓g_fnt, ↓g_fnf, hd]
          rw [hf, firstI_end hlt]
          exact VEnt.of_eq rfl
  · have f1 : decide ((0 : Int) < (i : Int)) = true := by simp; omega
    have heq : setE0 nq gt i = firstL [rng (cell gt i 0) 1 100, err (decide (cell gt i 0 ≤ cell gt (i - 1) 0)) 11, err (!decide ((inN gt i 1 : Int) = (nq : Int))) 2, rngs (inN gt i 1) (inG gt i 1) 0 100000000] := by
      unfold setE0
      rw [decide_eq_true (by omega : 0 < i), Bool.true_and]
    have hpv : inN gt (i - 1) 1 = nq := by have := hprev (by omega); simpa using this
    simp only [Proofs.Try.f33]
    simp (maxSteps := 4000000) only [go_sem, ↓op_move, ↓op_assign, ↓op_pick, ↓op_alloc, ↓op_box, ↓op_build, ↓op_buildSlice, ↓op_load, ↓op_store, ↓op_nilCheck, ↓op_bin, ↓op_un, ↓op_convert, ↓op_makeFunc, ↓op_makeSlice, ↓op_slice, ↓op_fieldAddr, ↓op_field, ↓op_indexAddr, ↓op_index, ↓op_extract, ↓op_range, ↓op_next, ↓op_call, ↓op_builtin, ↓g_tt, ↓g_ff, ↓g_tf, ↓g_ft, ↓g_tnt, ↓g_tnf, ↓g_fnt, ↓g_fnf, hp1, hp2, hp3, hg, hg1, f1, f3, hp4, hp5]
    refine ⟨by omega, inK_of (by omega) (by omega), by omega, hiv, fun h => VEnt.of_eq ?_, fun h1 => ?_⟩
    · have h : setE0 nq gt i ≠ 0 := by rw [heq]; simpa using h
      simp only [setE, if_pos h]
      rw [heq]
    · have h1 : setE0 nq gt i = 0 := by rw [heq]; simpa using h1
      have hse := setE0_zero.1 h1
      have he : setE nq gt i = firstI (fun k => err (enBad gt i k) 21) 0 (inN gt i 1) := by simp only [setE, h1, ne_eq, not_true_eq_false, if_false]
      refine RestT.loopI (β := Nat) [4, 50, 51, 52, 53, 54, 55, 56, 57, 58, 59, 60, 61, 62, 63, 64, 65, 66, 67, 68, 69, 70, 71, 72, 73, 74, 75, 76, 77, 78, 79, 80, 81, 82, 83, 84, 85, 86, 87, 88, 89, 90] (fun k => [(8, .int .i64 k)]) (fun _ => _) (fun k => k ≤ inN gt i 1 ∧ setE nq gt i = firstI (fun k => err (enBad gt i k) 21) k (inN gt i 1 - k)) (fun k => inN gt i 1 - k) 0 ⟨by omega, by simp [he]⟩ ?_ (HpLe.refl _) ?_
      · simp (maxSteps := 4000000) only [go_sem, ↓op_move, ↓op_assign, ↓op_pick, ↓op_alloc, ↓op_box, ↓op_build, ↓op_buildSlice, ↓op_load, ↓op_store, ↓op_nilCheck, ↓op_bin, ↓op_un, ↓op_convert, ↓op_makeFunc, ↓op_makeSlice, ↓op_slice, ↓op_fieldAddr, ↓op_field, ↓op_indexAddr, ↓op_index, ↓op_extract, ↓op_range, ↓op_next, ↓op_call, ↓op_builtin, ↓g_tt, ↓g_ff, ↓g_tf, ↓g_ft, ↓g_tnt, ↓g_tnf, ↓g_fnt, ↓g_fnf]
      · intro ck k hck hI
        generalize hqq : exC _ _ _ _ _ = gg
        have hle := hI.1
        have hf := hI.2
        by_cases hlt : k < inN gt i 1
        · rw [firstI_step hlt] at hf
          have hgk := hiv.2 k hlt
          have hlen : inN gt i 1 = nq := hse.2.2.1
          have hgp := hiv1.2 k (by omega)
          have hd : decide ((k : Int) < (inN gt i 1 : Int)) = true := by simp; omega
          rcases Nat.eq_zero_or_pos k with rfl | hkp
          · rw [← hqq]
            clear hqq
            simp (maxSteps := 4000000) only [go_sem, ↓op_move, ↓op_assign, ↓op_pick, ↓op_alloc, ↓op_box, ↓op_build, ↓op_buildSlice, ↓op_load, ↓op_store, ↓op_nilCheck, ↓op_bin, ↓op_un, ↓op_convert, ↓op_makeFunc, ↓op_makeSlice, ↓op_slice, ↓op_fieldAddr, ↓op_field, ↓op_indexAddr, ↓op_index, ↓op_extract, ↓op_range, ↓op_next, ↓op_call, ↓op_builtin, ↓g_tt, ↓g_ff, ↓g_tf, ↓g_ft, ↓g_tnt, ↓g_tnf, ↓g_fnt, ↓g_fnf, hp4, hp5, f1, f3, hgk, hgp, hd]
            refine ⟨fun _ => ⟨by omega, by omega, fun h => VEnt.of_eq ?_, fun h => ⟨inK_of (by omega) (by omega), by omega, 1, ⟨by omega, ?_⟩, by omega, .inr rfl, HpLe.refl _⟩⟩, fun h => absurd h (by omega)⟩
            · rw [hf, if_pos (by simp [enBad, err, h, hpos])]
              simp [enBad, err, h, hpos]
            · rw [hf, if_neg (by simp [enBad, err, h])]
          · have hgk1 := hiv.2 (k - 1) (by omega)
            have e1 : decide ((0 : Int) < (k : Int)) = true := by simp; omega
            have e2 : Int.toNat (max 0 ((k : Int) - 1)) = k - 1 := by omega
            rw [← hqq]
            clear hqq
            simp (maxSteps := 4000000) only [go_sem, ↓op_move, ↓op_assign, ↓op_pick, ↓op_alloc, ↓op_box, ↓op_build, ↓op_buildSlice, ↓op_load, ↓op_store, ↓op_nilCheck, ↓op_bin, ↓op_un, ↓op_convert, ↓op_makeFunc, ↓op_makeSlice, ↓op_slice, ↓op_fieldAddr, ↓op_field, ↓op_indexAddr, ↓op_index, ↓op_extract, ↓op_range, ↓op_next, ↓op_call, ↓op_builtin, ↓g_tt, ↓g_ff, ↓g_tf, ↓g_ft, ↓g_tnt, ↓g_tnf, ↓g_fnt, ↓g_fnf, hp4, hp5, f1, f3, hgk, hgp, hgk1, e1, e2, hd]
            refine ⟨by omega, inK_of (by omega) (by omega), by omega, fun h => ⟨by omega, by omega, fun h2 => VEnt.of_eq ?_, fun h2 => ⟨inK_of (by omega) (by omega), by omega, k + 1, ⟨by omega, ?_⟩, by omega, .inr rfl, HpLe.refl _⟩⟩, fun h => VEnt.of_eq ?_⟩
            · rw [hf, if_pos (by simp [enBad, err, h, h2, hpos])]
              simp [enBad, err, h, h2, hpos]
            · rw [hf, if_neg (by simp [enBad, err, h, h2])]
            · rw [hf, if_pos (by simp [enBad, err, h, hkp])]
              simp [enBad, err, h, hkp]
        · have hd : decide ((k : Int) < (inN gt i 1 : Int)) = false := by simp; omega
          rw [← hqq]
          clear hqq
          simp (maxSteps := 4000000) only [go_sem, ↓op_move, ↓op_assign, ↓op_pick, ↓op_alloc, ↓op_box, ↓op_build, ↓op_buildSlice, ↓op_load, ↓op_store, ↓op_nilCheck, ↓op_bin, ↓op_un, ↓op_convert, ↓op_makeFunc, ↓op_makeSlice, ↓op_slice, ↓op_fieldAddr, ↓op_field, ↓op_indexAddr, ↓op_index, ↓op_extract, ↓op_range, ↓op_next, ↓op_call, ↓op_builtin, ↓g_tt, ↓g_ff, ↓g_tf, ↓g_ft, ↓g_tnt, ↓g_tnf, ↓g_fnt, ↓g_fnf, hd]
          rw [hf, firstI_end hlt]
          exact VEnt.of_eq rfl
end Go.Fly.Try
