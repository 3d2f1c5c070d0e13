/- The air's functions at any input. -/
import Derived.Test.YtmlknpghkclffaaGreatDoorSYAGA
import Derived.Test.YtmlknpghkclffaaGreatDoorAM
set_option linter.unusedSimpArgs false
set_option linter.unusedVariables false
set_option maxRecDepth 100000
set_option maxHeartbeats 2000000
namespace Go.Fly.Tryz
open Go

theorem gAlong_ok : Holds Proofs.Tryz.prog G0 119 alongC := by
  refine Holds.of_exC D119 Proofs.Tryz.func119 rfl foll (by kernel_rfl) (tab [(83, firstC), (84, withinC), (86, whenC), (iceKey 1, iceC)]) (tab_ok ⟨aFirst_ok, aWithin_ok, aWhen_ok, ice_holds, trivial⟩) G0_ok fun k0 rl args hpu hpre => ?_
  unfold alongC at hpre ⊢
  split at hpre
  rotate_left
  · exact hpre.elim
  simp only [Proofs.Tryz.f119]
  rw [enter_mkT (Nat.le_of_ble_eq_true rfl)]
  simp (maxSteps := 4000000) only [go_sem, ↓op_move, ↓op_assign, ↓op_pick, ↓op_alloc, ↓op_box, ↓op_build, ↓op_buildSlice, ↓op_load, ↓op_store, ↓op_nilCheck, ↓op_bin, ↓op_un, ↓op_convert, ↓op_makeFunc, ↓op_makeSlice, ↓op_slice, ↓op_fieldAddr, ↓op_field, ↓op_indexAddr, ↓op_index, ↓op_extract, ↓op_lookup, ↓op_mapUpdate, ↓op_makeMap, ↓op_range, ↓op_next, ↓op_call, ↓op_builtin, ↓g_tt, ↓g_ff, ↓g_tf, ↓g_ft, ↓g_tnt, ↓g_tnf, ↓g_fnt, ↓g_fnf, ↓mkT_getD]
  exact VEnt.of_eq rfl

theorem gIdx_ok : Holds Proofs.Tryz.prog G0 118 lixC := by
  refine Holds.of_exC D118 Proofs.Tryz.func118 rfl foll (by kernel_rfl) (tab [(86, whenC)]) (tab_ok ⟨aWhen_ok, trivial⟩) G0_ok fun k0 rl args hpu hpre => ?_
  unfold lixC at hpre ⊢
  split at hpre
  rotate_left
  · exact hpre.elim
  rename_i n sz get i
  have hpu := hpre
  cases h1 : decide (i < 0)
  · simp only [Proofs.Tryz.f118]
    rw [enter_mkT (Nat.le_of_ble_eq_true rfl)]
    simp (maxSteps := 4000000) only [go_sem, ↓op_move, ↓op_assign, ↓op_pick, ↓op_alloc, ↓op_box, ↓op_build, ↓op_buildSlice, ↓op_load, ↓op_store, ↓op_nilCheck, ↓op_bin, ↓op_un, ↓op_convert, ↓op_makeFunc, ↓op_makeSlice, ↓op_slice, ↓op_fieldAddr, ↓op_field, ↓op_indexAddr, ↓op_index, ↓op_extract, ↓op_lookup, ↓op_mapUpdate, ↓op_makeMap, ↓op_range, ↓op_next, ↓op_call, ↓op_builtin, ↓g_tt, ↓g_ff, ↓g_tf, ↓g_ft, ↓g_tnt, ↓g_tnf, ↓g_fnt, ↓g_fnf, ↓mkT_getD, hpu, h1]
    exact VEnt.of_eq (by simp [lixE, h1])
  · simp only [Proofs.Tryz.f118]
    rw [enter_mkT (Nat.le_of_ble_eq_true rfl)]
    simp (maxSteps := 4000000) only [go_sem, ↓op_move, ↓op_assign, ↓op_pick, ↓op_alloc, ↓op_box, ↓op_build, ↓op_buildSlice, ↓op_load, ↓op_store, ↓op_nilCheck, ↓op_bin, ↓op_un, ↓op_convert, ↓op_makeFunc, ↓op_makeSlice, ↓op_slice, ↓op_fieldAddr, ↓op_field, ↓op_indexAddr, ↓op_index, ↓op_extract, ↓op_lookup, ↓op_mapUpdate, ↓op_makeMap, ↓op_range, ↓op_next, ↓op_call, ↓op_builtin, ↓g_tt, ↓g_ff, ↓g_tf, ↓g_ft, ↓g_tnt, ↓g_tnf, ↓g_fnt, ↓g_fnf, ↓mkT_getD, hpu, h1]
    exact VEnt.of_eq (by simp [lixE, h1])

theorem gLat_ok : Holds Proofs.Tryz.prog G0 18 lat3C := by
  refine Holds.of_exC D18 Proofs.Tryz.func18 rfl foll (by kernel_rfl) (tab [(27, airC), (83, firstC), (84, withinC), (85, atC)]) (tab_ok ⟨aAir_ok, aFirst_ok, aWithin_ok, aAt_ok, trivial⟩) G0_ok fun k0 rl args hpu hpre => ?_
  unfold lat3C at hpre ⊢
  split at hpre
  rotate_left
  · exact hpre.elim
  rename_i n sz get h
  obtain ⟨rfl, hair⟩ := hpre
  have hpu := hair.pu
  by_cases he : latE n get h = 0
  · have hz := firstL_zero.1 he
    have h1 : airE n get = 0 := hz _ (by simp)
    have hh : 0 ≤ h ∧ h ≤ 10000 := rng_zero.1 (hz _ (by simp))
    have hok := airE_ok h1
    obtain ⟨i, hi, hat⟩ := atE_ok hok (show h ≤ 20000 by omega)
    obtain ⟨hg, hiv⟩ := hair.2 i hi
    have hp2 := hiv.pu
    have hd : decide (firstL [airE n get, rng h 0 10000] = 0) = true := decide_eq_true he
    simp only [Proofs.Tryz.f18]
    rw [enter_mkT (Nat.le_of_ble_eq_true rfl)]
    simp (maxSteps := 4000000) only [go_sem, ↓op_move, ↓op_assign, ↓op_pick, ↓op_alloc, ↓op_box, ↓op_build, ↓op_buildSlice, ↓op_load, ↓op_store, ↓op_nilCheck, ↓op_bin, ↓op_un, ↓op_convert, ↓op_makeFunc, ↓op_makeSlice, ↓op_slice, ↓op_fieldAddr, ↓op_field, ↓op_indexAddr, ↓op_index, ↓op_extract, ↓op_lookup, ↓op_mapUpdate, ↓op_makeMap, ↓op_range, ↓op_next, ↓op_call, ↓op_builtin, ↓g_tt, ↓g_ff, ↓g_tf, ↓g_ft, ↓g_tnt, ↓g_tnf, ↓g_fnt, ↓g_fnf, ↓mkT_getD, hpu, hd, hat, Int.toNat_natCast, hg, hp2]
    rw [orE_no he]
    exact ⟨hair, ⟨hair, hok, by omega, by omega⟩, VEnt.refl _⟩
  · have hd : decide (firstL [airE n get, rng h 0 10000] = 0) = false := decide_eq_false he
    simp only [Proofs.Tryz.f18]
    rw [enter_mkT (Nat.le_of_ble_eq_true rfl)]
    simp (maxSteps := 4000000) only [go_sem, ↓op_move, ↓op_assign, ↓op_pick, ↓op_alloc, ↓op_box, ↓op_build, ↓op_buildSlice, ↓op_load, ↓op_store, ↓op_nilCheck, ↓op_bin, ↓op_un, ↓op_convert, ↓op_makeFunc, ↓op_makeSlice, ↓op_slice, ↓op_fieldAddr, ↓op_field, ↓op_indexAddr, ↓op_index, ↓op_extract, ↓op_lookup, ↓op_mapUpdate, ↓op_makeMap, ↓op_range, ↓op_next, ↓op_call, ↓op_builtin, ↓g_tt, ↓g_ff, ↓g_tf, ↓g_ft, ↓g_tnt, ↓g_tnf, ↓g_fnt, ↓g_fnf, ↓mkT_getD, hpu, hd]
    rw [orE_err he]
    exact ⟨hair, VEnt.refl _⟩

theorem gCmp_ok : Holds Proofs.Tryz.prog G0 49 cmp3C := by
  refine Holds.of_exC D49 Proofs.Tryz.func49 rfl foll (by kernel_rfl) (tab [(27, airC), (83, firstC), (118, lixC), (119, alongC), (120, fastC), (iceKey 7, iceC)]) (tab_ok ⟨aAir_ok, aFirst_ok, gIdx_ok, gAlong_ok, aFast_ok, ice_holds, trivial⟩) G0_ok fun k0 rl args hpu hpre => ?_
  unfold cmp3C at hpre ⊢
  split at hpre
  rotate_left
  · exact hpre.elim
  rename_i n sz get i j x y
  obtain ⟨rfl, hair⟩ := hpre
  have hpu := hair.pu
  by_cases he : cmp3E n get i j x y = 0
  · have hz := firstL_zero.1 he
    have h1 : airE n get = 0 := hz _ (by simp)
    have hi := lixE_zero.1 (hz (lixE n i) (by simp))
    have hj := lixE_zero.1 (hz (lixE n j) (by simp))
    have hal := alongE_zero (hz (alongE x y) (by simp))
    obtain ⟨i, rfl⟩ := Int.eq_ofNat_of_zero_le hi.1
    obtain ⟨j, rfl⟩ := Int.eq_ofNat_of_zero_le hj.1
    obtain ⟨hg, hiv⟩ := hair.2 i (by omega)
    obtain ⟨hg2, hiv2⟩ := hair.2 j (by omega)
    have hp2 := hiv.pu
    have hp3 := hiv2.pu
    have w1 := airE_wind h1 (show i < n by omega)
    have w2 := airE_wind h1 (show j < n by omega)
    have hd : decide (firstL [airE n get, lixE n i, lixE n j, alongE x y] = 0) = true := decide_eq_true he
    simp only [Proofs.Tryz.f49]
    rw [enter_mkT (Nat.le_of_ble_eq_true rfl)]
    simp (maxSteps := 4000000) only [go_sem, ↓op_move, ↓op_assign, ↓op_pick, ↓op_alloc, ↓op_box, ↓op_build, ↓op_buildSlice, ↓op_load, ↓op_store, ↓op_nilCheck, ↓op_bin, ↓op_un, ↓op_convert, ↓op_makeFunc, ↓op_makeSlice, ↓op_slice, ↓op_fieldAddr, ↓op_field, ↓op_indexAddr, ↓op_index, ↓op_extract, ↓op_lookup, ↓op_mapUpdate, ↓op_makeMap, ↓op_range, ↓op_next, ↓op_call, ↓op_builtin, ↓g_tt, ↓g_ff, ↓g_tf, ↓g_ft, ↓g_tnt, ↓g_tnf, ↓g_fnt, ↓g_fnf, ↓mkT_getD, hpu, hd, Int.toNat_natCast, hg, hp2, hg2, hp3]
    rw [orE_no he]
    refine ⟨hair, ⟨by omega, by omega⟩, ⟨by omega, by omega⟩, ⟨by omega, by omega, by omega, by omega, by omega, by omega, by omega, by omega, by omega⟩, VEnt.refl _⟩
  · have hd : decide (firstL [airE n get, lixE n i, lixE n j, alongE x y] = 0) = false := decide_eq_false he
    simp only [Proofs.Tryz.f49]
    rw [enter_mkT (Nat.le_of_ble_eq_true rfl)]
    simp (maxSteps := 4000000) only [go_sem, ↓op_move, ↓op_assign, ↓op_pick, ↓op_alloc, ↓op_box, ↓op_build, ↓op_buildSlice, ↓op_load, ↓op_store, ↓op_nilCheck, ↓op_bin, ↓op_un, ↓op_convert, ↓op_makeFunc, ↓op_makeSlice, ↓op_slice, ↓op_fieldAddr, ↓op_field, ↓op_indexAddr, ↓op_index, ↓op_extract, ↓op_lookup, ↓op_mapUpdate, ↓op_makeMap, ↓op_range, ↓op_next, ↓op_call, ↓op_builtin, ↓g_tt, ↓g_ff, ↓g_tf, ↓g_ft, ↓g_tnt, ↓g_tnf, ↓g_fnt, ↓g_fnf, ↓mkT_getD, hpu, hd]
    rw [orE_err he]
    exact ⟨hair, VEnt.refl _⟩

theorem gRev_ok : Holds Proofs.Tryz.prog G0 21 rev3C := by
  refine Holds.of_exC D21 Proofs.Tryz.func21 rfl foll (by kernel_rfl) (tab [(27, airC), (88, mapLayC 90 87), (90, revLayC)]) (tab_ok ⟨aAir_ok, aMapLay_ok, aRev1_ok, trivial⟩) G0_ok fun k0 rl args hpu hpre => ?_
  unfold rev3C at hpre ⊢
  split at hpre
  rotate_left
  · exact hpre.elim
  rename_i n sz get
  obtain ⟨rfl, hair⟩ := hpre
  have hpu := hair.pu
  by_cases hae : airE n get = 0
  · have hok := airE_ok hae
    have hlay : ∀ i, i < n → inN get i 4 ≤ 1000000 ∧ (-1000 ≤ cell get i 2 ∧ cell get i 2 ≤ 1000) ∧ (-1000 ≤ cell get i 3 ∧ cell get i 3 ≤ 1000) := fun i hi => by
      have := hok.same i hi
      have := hok.bands
      have := airE_wind hae hi
      omega
    have hcn := hok.cnt
    simp only [Proofs.Tryz.f21]
    rw [enter_mkT (Nat.le_of_ble_eq_true rfl)]
    simp (maxSteps := 4000000) only [go_sem, ↓op_move, ↓op_assign, ↓op_pick, ↓op_alloc, ↓op_box, ↓op_build, ↓op_buildSlice, ↓op_load, ↓op_store, ↓op_nilCheck, ↓op_bin, ↓op_un, ↓op_convert, ↓op_makeFunc, ↓op_makeSlice, ↓op_slice, ↓op_fieldAddr, ↓op_field, ↓op_indexAddr, ↓op_index, ↓op_extract, ↓op_lookup, ↓op_mapUpdate, ↓op_makeMap, ↓op_range, ↓op_next, ↓op_call, ↓op_builtin, ↓g_tt, ↓g_ff, ↓g_tf, ↓g_ft, ↓g_tnt, ↓g_tnf, ↓g_fnt, ↓g_fnf, ↓mkT_getD, hpu, hae, Nat.zero_add]
    rw [orE_no rfl]
    exact ⟨hair, ⟨hair, by omega, hlay⟩, VEnt.tup ⟨VEnt.sl fun i hi => frzRow_sl (isAir_rev hair).pu hi, VEnt.refl _, trivial⟩⟩
  · have hd : decide (airE n get = 0) = false := decide_eq_false hae
    simp only [Proofs.Tryz.f21]
    rw [enter_mkT (Nat.le_of_ble_eq_true rfl)]
    simp (maxSteps := 4000000) only [go_sem, ↓op_move, ↓op_assign, ↓op_pick, ↓op_alloc, ↓op_box, ↓op_build, ↓op_buildSlice, ↓op_load, ↓op_store, ↓op_nilCheck, ↓op_bin, ↓op_un, ↓op_convert, ↓op_makeFunc, ↓op_makeSlice, ↓op_slice, ↓op_fieldAddr, ↓op_field, ↓op_indexAddr, ↓op_index, ↓op_extract, ↓op_lookup, ↓op_mapUpdate, ↓op_makeMap, ↓op_range, ↓op_next, ↓op_call, ↓op_builtin, ↓g_tt, ↓g_ff, ↓g_tf, ↓g_ft, ↓g_tnt, ↓g_tnf, ↓g_fnt, ↓g_fnf, ↓mkT_getD, hpu, hd]
    rw [orE_err hae]
    exact ⟨hair, VEnt.refl _⟩

theorem gBent_ok : Holds Proofs.Tryz.prog G0 56 bent3C := by
  refine Holds.of_exC D56 Proofs.Tryz.func56 rfl foll (by kernel_rfl) (tab [(98, checkC), (124, bentC), (iceKey 3, iceC)]) (tab_ok ⟨aCheck_ok, aBent_ok, ice_holds, trivial⟩) G0_ok fun k0 rl args hpu hpre => ?_
  unfold bent3C at hpre ⊢
  split at hpre
  rotate_left
  · exact hpre.elim
  rename_i n sz get a b c d e f
  obtain ⟨rfl, hair⟩ := hpre
  have hpu := hair.pu
  by_cases hce : checkE n get a b c d e f = 0
  · obtain ⟨hae, hp⟩ := checkE_zero.1 hce
    simp only [Proofs.Tryz.f56]
    rw [enter_mkT (Nat.le_of_ble_eq_true rfl)]
    simp (maxSteps := 4000000) only [go_sem, ↓op_move, ↓op_assign, ↓op_pick, ↓op_alloc, ↓op_box, ↓op_build, ↓op_buildSlice, ↓op_load, ↓op_store, ↓op_nilCheck, ↓op_bin, ↓op_un, ↓op_convert, ↓op_makeFunc, ↓op_makeSlice, ↓op_slice, ↓op_fieldAddr, ↓op_field, ↓op_indexAddr, ↓op_index, ↓op_extract, ↓op_lookup, ↓op_mapUpdate, ↓op_makeMap, ↓op_range, ↓op_next, ↓op_call, ↓op_builtin, ↓g_tt, ↓g_ff, ↓g_tf, ↓g_ft, ↓g_tnt, ↓g_tnf, ↓g_fnt, ↓g_fnf, ↓mkT_getD, hpu, hce]
    rw [orE_no rfl]
    exact ⟨hair, ⟨hair, hae, hp⟩, VEnt.of_eq rfl⟩
  · have hd : decide (checkE n get a b c d e f = 0) = false := decide_eq_false hce
    simp only [Proofs.Tryz.f56]
    rw [enter_mkT (Nat.le_of_ble_eq_true rfl)]
    simp (maxSteps := 4000000) only [go_sem, ↓op_move, ↓op_assign, ↓op_pick, ↓op_alloc, ↓op_box, ↓op_build, ↓op_buildSlice, ↓op_load, ↓op_store, ↓op_nilCheck, ↓op_bin, ↓op_un, ↓op_convert, ↓op_makeFunc, ↓op_makeSlice, ↓op_slice, ↓op_fieldAddr, ↓op_field, ↓op_indexAddr, ↓op_index, ↓op_extract, ↓op_lookup, ↓op_mapUpdate, ↓op_makeMap, ↓op_range, ↓op_next, ↓op_call, ↓op_builtin, ↓g_tt, ↓g_ff, ↓g_tf, ↓g_ft, ↓g_tnt, ↓g_tnf, ↓g_fnt, ↓g_fnf, ↓mkT_getD, hpu, hd]
    rw [orE_err hce]
    exact ⟨hair, VEnt.refl _⟩

theorem gShad_ok : Holds Proofs.Tryz.prog G0 57 shad3C := by
  refine Holds.of_exC D57 Proofs.Tryz.func57 rfl foll (by kernel_rfl) (tab [(98, checkC), (124, bentC), (125, dirPC), (iceKey 3, iceC)]) (tab_ok ⟨aCheck_ok, aBent_ok, aDirP_ok, ice_holds, trivial⟩) G0_ok fun k0 rl args hpu hpre => ?_
  unfold shad3C at hpre ⊢
  split at hpre
  rotate_left
  · exact hpre.elim
  rename_i n sz get a b c d e f
  obtain ⟨rfl, hair⟩ := hpre
  have hpu := hair.pu
  by_cases hce : checkE n get a b c d e f = 0
  · obtain ⟨hae, hp⟩ := checkE_zero.1 hce
    have hp' := hp
    obtain ⟨⟨a1, a2, a3⟩, ⟨a4, a5, a6⟩, a7⟩ := hp'
    have q1 := sqBd (show -20000 ≤ d - a by omega) (show d - a ≤ 20000 by omega)
    have q2 := sqBd (show -20000 ≤ e - b by omega) (show e - b ≤ 20000 by omega)
    have q3 := sqBd (show -400000 ≤ 20 * (c + f) by omega) (show 20 * (c + f) ≤ 400000 by omega)
    cases hs : decide (bentE n get a b c d e f < 0)
    · simp only [Proofs.Tryz.f57]
      rw [enter_mkT (Nat.le_of_ble_eq_true rfl)]
      simp (maxSteps := 4000000) only [go_sem, ↓op_move, ↓op_assign, ↓op_pick, ↓op_alloc, ↓op_box, ↓op_build, ↓op_buildSlice, ↓op_load, ↓op_store, ↓op_nilCheck, ↓op_bin, ↓op_un, ↓op_convert, ↓op_makeFunc, ↓op_makeSlice, ↓op_slice, ↓op_fieldAddr, ↓op_field, ↓op_indexAddr, ↓op_index, ↓op_extract, ↓op_lookup, ↓op_mapUpdate, ↓op_makeMap, ↓op_range, ↓op_next, ↓op_call, ↓op_builtin, ↓g_tt, ↓g_ff, ↓g_tf, ↓g_ft, ↓g_tnt, ↓g_tnf, ↓g_fnt, ↓g_fnf, ↓mkT_getD, hpu, hce, hs]
      rw [orE_no rfl]
      exact ⟨hair, ⟨a1, a2, a4, a5⟩, inK_of (by omega) (by omega), inK_of (by omega) (by omega), ⟨hair, hae, hp⟩, VEnt.of_eq (by simp [shadE, hs])⟩
    · simp only [Proofs.Tryz.f57]
      rw [enter_mkT (Nat.le_of_ble_eq_true rfl)]
      simp (maxSteps := 4000000) only [go_sem, ↓op_move, ↓op_assign, ↓op_pick, ↓op_alloc, ↓op_box, ↓op_build, ↓op_buildSlice, ↓op_load, ↓op_store, ↓op_nilCheck, ↓op_bin, ↓op_un, ↓op_convert, ↓op_makeFunc, ↓op_makeSlice, ↓op_slice, ↓op_fieldAddr, ↓op_field, ↓op_indexAddr, ↓op_index, ↓op_extract, ↓op_lookup, ↓op_mapUpdate, ↓op_makeMap, ↓op_range, ↓op_next, ↓op_call, ↓op_builtin, ↓g_tt, ↓g_ff, ↓g_tf, ↓g_ft, ↓g_tnt, ↓g_tnf, ↓g_fnt, ↓g_fnf, ↓mkT_getD, hpu, hce, hs]
      rw [orE_no rfl]
      exact ⟨hair, ⟨a1, a2, a4, a5⟩, inK_of (by omega) (by omega), inK_of (by omega) (by omega), ⟨hair, hae, hp⟩, inK_of (by omega) (by omega), inK_of (by omega) (by omega), inK_of (by omega) (by omega), inK_of (by omega) (by omega), VEnt.of_eq (by simp [shadE, hs])⟩
  · have hd : decide (checkE n get a b c d e f = 0) = false := decide_eq_false hce
    simp only [Proofs.Tryz.f57]
    rw [enter_mkT (Nat.le_of_ble_eq_true rfl)]
    simp (maxSteps := 4000000) only [go_sem, ↓op_move, ↓op_assign, ↓op_pick, ↓op_alloc, ↓op_box, ↓op_build, ↓op_buildSlice, ↓op_load, ↓op_store, ↓op_nilCheck, ↓op_bin, ↓op_un, ↓op_convert, ↓op_makeFunc, ↓op_makeSlice, ↓op_slice, ↓op_fieldAddr, ↓op_field, ↓op_indexAddr, ↓op_index, ↓op_extract, ↓op_lookup, ↓op_mapUpdate, ↓op_makeMap, ↓op_range, ↓op_next, ↓op_call, ↓op_builtin, ↓g_tt, ↓g_ff, ↓g_tf, ↓g_ft, ↓g_tnt, ↓g_tnf, ↓g_fnt, ↓g_fnf, ↓mkT_getD, hpu, hd]
    rw [orE_err hce]
    exact ⟨hair, VEnt.refl _⟩
end Go.Fly.Tryz
