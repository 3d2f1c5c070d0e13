/- Lengths, steps, what passes, echoes: at any input. -/
import Derived.Test.YtmlknpghkclffaaGreatDoorSYAGC
import Derived.Test.YtmlknpghkclffaaGreatDoorSYABN
import Derived.Test.YtmlknpghkclffaaGreatDoorAO
set_option linter.unusedSimpArgs false
set_option linter.unusedVariables false
set_option maxRecDepth 100000
set_option maxHeartbeats 2000000
namespace Go.Fly.Tryz
open Go

theorem gLen_ok : Holds Proofs.Tryz.prog G0 29 len3C := by
  refine Holds.of_exC D29 Proofs.Tryz.func29 rfl foll (by kernel_rfl) (tab [(35, pathC), (96, rootsC), (97, straightC), (iceKey 1, iceC)]) (tab_ok ⟨aPath_ok, aRoots_ok, aStraight_ok, ice_holds, trivial⟩) G0_ok fun k0 rl args hpu hpre => ?_
  unfold len3C at hpre ⊢
  split at hpre
  rotate_left
  · exact hpre.elim
  rename_i a b c d e f
  by_cases he : pathE a b c d e f = 0
  · have hp := pathE_zero.1 he
    have hsq := sqE_bd hp
    simp only [Proofs.Tryz.f29]
    rw [enter_mkT (Nat.le_of_ble_eq_true rfl)]
    simp (maxSteps := 4000000) only [go_sem, ↓op_move, ↓op_assign, ↓op_pick, ↓op_alloc, ↓op_box, ↓op_build, ↓op_buildSlice, ↓op_load, ↓op_store, ↓op_nilCheck, ↓op_bin, ↓op_un, ↓op_convert, ↓op_makeFunc, ↓op_makeSlice, ↓op_slice, ↓op_fieldAddr, ↓op_field, ↓op_indexAddr, ↓op_index, ↓op_extract, ↓op_lookup, ↓op_mapUpdate, ↓op_makeMap, ↓op_range, ↓op_next, ↓op_call, ↓op_builtin, ↓g_tt, ↓g_ff, ↓g_tf, ↓g_ft, ↓g_tnt, ↓g_tnf, ↓g_fnt, ↓g_fnf, ↓mkT_getD, he]
    rw [orE_no rfl]
    exact ⟨hp, ⟨hsq.1, by omega⟩, VEnt.of_eq rfl⟩
  · have hd : decide (pathE a b c d e f = 0) = false := decide_eq_false he
    simp only [Proofs.Tryz.f29]
    rw [enter_mkT (Nat.le_of_ble_eq_true rfl)]
    simp (maxSteps := 4000000) only [go_sem, ↓op_move, ↓op_assign, ↓op_pick, ↓op_alloc, ↓op_box, ↓op_build, ↓op_buildSlice, ↓op_load, ↓op_store, ↓op_nilCheck, ↓op_bin, ↓op_un, ↓op_convert, ↓op_makeFunc, ↓op_makeSlice, ↓op_slice, ↓op_fieldAddr, ↓op_field, ↓op_indexAddr, ↓op_index, ↓op_extract, ↓op_lookup, ↓op_mapUpdate, ↓op_makeMap, ↓op_range, ↓op_next, ↓op_call, ↓op_builtin, ↓g_tt, ↓g_ff, ↓g_tf, ↓g_ft, ↓g_tnt, ↓g_tnf, ↓g_fnt, ↓g_fnf, ↓mkT_getD, hd]
    rw [orE_err he]
    exact VEnt.of_eq rfl

theorem gGround_ok : Holds Proofs.Tryz.prog G0 106 groundC := by
  refine Holds.of_exC D106 Proofs.Tryz.func106 rfl foll (by kernel_rfl) (tab [(125, dirPC), (iceKey 1, iceC)]) (tab_ok ⟨aDirP_ok, ice_holds, trivial⟩) G0_ok fun k0 rl args hpu hpre => ?_
  unfold groundC at hpre ⊢
  split at hpre
  rotate_left
  · exact hpre.elim
  rename_i a b c d e f
  have hb := ech_bd hpre
  have hp := hpre
  obtain ⟨⟨a1, a2, a3⟩, ⟨a4, a5, a6⟩, a7⟩ := hp
  simp only [Proofs.Tryz.f106]
  rw [enter_mkT (Nat.le_of_ble_eq_true rfl)]
  simp (maxSteps := 4000000) only [go_sem, ↓op_move, ↓op_assign, ↓op_pick, ↓op_alloc, ↓op_box, ↓op_build, ↓op_buildSlice, ↓op_load, ↓op_store, ↓op_nilCheck, ↓op_bin, ↓op_un, ↓op_convert, ↓op_makeFunc, ↓op_makeSlice, ↓op_slice, ↓op_fieldAddr, ↓op_field, ↓op_indexAddr, ↓op_index, ↓op_extract, ↓op_lookup, ↓op_mapUpdate, ↓op_makeMap, ↓op_range, ↓op_next, ↓op_call, ↓op_builtin, ↓g_tt, ↓g_ff, ↓g_tf, ↓g_ft, ↓g_tnt, ↓g_tnf, ↓g_fnt, ↓g_fnf, ↓mkT_getD]
  exact ⟨⟨a1, a2, a4, a5⟩, inK_of (by omega) (by omega), inK_of (by omega) (by omega), inK_of (by omega) (by omega), inK_of (by omega) (by omega), inK_of (by omega) (by omega), inK_of (by omega) (by omega), VEnt.of_eq rfl⟩

theorem gSteps3_ok : Holds Proofs.Tryz.prog G0 31 steps3C := by
  refine Holds.of_exC D31 Proofs.Tryz.func31 rfl foll (by kernel_rfl) (tab [(97, straightC), (98, checkC), (99, steps2C), (iceKey 3, iceC)]) (tab_ok ⟨aStraight_ok, aCheck_ok, gSteps_ok, ice_holds, trivial⟩) G0_ok fun k0 rl args hpu hpre => ?_
  unfold steps3C at hpre ⊢
  split at hpre
  rotate_left
  · exact hpre.elim
  rename_i n sz get a b c d e f
  obtain ⟨rfl, hair⟩ := hpre
  have hpu := hair.pu
  by_cases hce : checkE n get a b c d e f = 0
  · obtain ⟨hae, hp⟩ := checkE_zero.1 hce
    have hok := airE_ok hae
    have hsq := sqE_bd hp
    have hp' := hp
    obtain ⟨⟨a1, a2, a3⟩, ⟨a4, a5, a6⟩, a7⟩ := hp'
    simp only [Proofs.Tryz.f31]
    rw [enter_mkT (Nat.le_of_ble_eq_true rfl)]
    simp (maxSteps := 4000000) only [go_sem, ↓op_move, ↓op_assign, ↓op_pick, ↓op_alloc, ↓op_box, ↓op_build, ↓op_buildSlice, ↓op_load, ↓op_store, ↓op_nilCheck, ↓op_bin, ↓op_un, ↓op_convert, ↓op_makeFunc, ↓op_makeSlice, ↓op_slice, ↓op_fieldAddr, ↓op_field, ↓op_indexAddr, ↓op_index, ↓op_extract, ↓op_lookup, ↓op_mapUpdate, ↓op_makeMap, ↓op_range, ↓op_next, ↓op_call, ↓op_builtin, ↓g_tt, ↓g_ff, ↓g_tf, ↓g_ft, ↓g_tnt, ↓g_tnf, ↓g_fnt, ↓g_fnf, ↓mkT_getD, hpu, hce]
    rw [orE_no rfl]
    exact ⟨hair, hp, ⟨hair, hok, ⟨hsq.1, by omega⟩, by omega, by omega, by omega, by omega, by omega⟩, VEnt.of_eq rfl⟩
  · have hd : decide (checkE n get a b c d e f = 0) = false := decide_eq_false hce
    simp only [Proofs.Tryz.f31]
    rw [enter_mkT (Nat.le_of_ble_eq_true rfl)]
    simp (maxSteps := 4000000) only [go_sem, ↓op_move, ↓op_assign, ↓op_pick, ↓op_alloc, ↓op_box, ↓op_build, ↓op_buildSlice, ↓op_load, ↓op_store, ↓op_nilCheck, ↓op_bin, ↓op_un, ↓op_convert, ↓op_makeFunc, ↓op_makeSlice, ↓op_slice, ↓op_fieldAddr, ↓op_field, ↓op_indexAddr, ↓op_index, ↓op_extract, ↓op_lookup, ↓op_mapUpdate, ↓op_makeMap, ↓op_range, ↓op_next, ↓op_call, ↓op_builtin, ↓g_tt, ↓g_ff, ↓g_tf, ↓g_ft, ↓g_tnt, ↓g_tnf, ↓g_fnt, ↓g_fnf, ↓mkT_getD, hpu, hd]
    rw [orE_err hce]
    exact ⟨hair, VEnt.refl _⟩

theorem gPassed3_ok : Holds Proofs.Tryz.prog G0 37 passed3C := by
  refine Holds.of_exC D37 Proofs.Tryz.func37 rfl foll (by kernel_rfl) (tab [(97, straightC), (98, checkC), (99, steps2C), (105, passedC), (iceKey 3, iceC)]) (tab_ok ⟨aStraight_ok, aCheck_ok, gSteps_ok, aPassed_ok, ice_holds, trivial⟩) G0_ok fun k0 rl args hpu hpre => ?_
  unfold passed3C at hpre ⊢
  split at hpre
  rotate_left
  · exact hpre.elim
  rename_i n sz get a b c d e f
  obtain ⟨rfl, hair⟩ := hpre
  have hpu := hair.pu
  by_cases hce : checkE n get a b c d e f = 0
  · obtain ⟨hae, hp⟩ := checkE_zero.1 hce
    have hok := airE_ok hae
    have hsq := sqE_bd hp
    have hp' := hp
    obtain ⟨⟨a1, a2, a3⟩, ⟨a4, a5, a6⟩, a7⟩ := hp'
    have hst := fun i => stG_bd (n := n) (get := get) (flat := c) (sq := sqE a b c d e f) (y0 := 0) (y1 := 0) ⟨hsq.1, by omega⟩ (show min c f ≤ max c f by omega) (Int.le_refl 0) i
    simp only [Proofs.Tryz.f37]
    rw [enter_mkT (Nat.le_of_ble_eq_true rfl)]
    simp (maxSteps := 4000000) only [go_sem, ↓op_move, ↓op_assign, ↓op_pick, ↓op_alloc, ↓op_box, ↓op_build, ↓op_buildSlice, ↓op_load, ↓op_store, ↓op_nilCheck, ↓op_bin, ↓op_un, ↓op_convert, ↓op_makeFunc, ↓op_makeSlice, ↓op_slice, ↓op_fieldAddr, ↓op_field, ↓op_indexAddr, ↓op_index, ↓op_extract, ↓op_lookup, ↓op_mapUpdate, ↓op_makeMap, ↓op_range, ↓op_next, ↓op_call, ↓op_builtin, ↓g_tt, ↓g_ff, ↓g_tf, ↓g_ft, ↓g_tnt, ↓g_tnf, ↓g_fnt, ↓g_fnf, ↓mkT_getD, hpu, hce]
    rw [orE_no rfl]
    refine ⟨hair, hp, ⟨hair, hok, ⟨hsq.1, by omega⟩, by omega, by omega, by omega, by omega, by omega⟩, ⟨hair, hok, isIv_fn _ _ hair.1, fun i hi => ?_⟩, VEnt.of_eq rfl⟩
    have := hst i
    omega
  · have hd : decide (checkE n get a b c d e f = 0) = false := decide_eq_false hce
    simp only [Proofs.Tryz.f37]
    rw [enter_mkT (Nat.le_of_ble_eq_true rfl)]
    simp (maxSteps := 4000000) only [go_sem, ↓op_move, ↓op_assign, ↓op_pick, ↓op_alloc, ↓op_box, ↓op_build, ↓op_buildSlice, ↓op_load, ↓op_store, ↓op_nilCheck, ↓op_bin, ↓op_un, ↓op_convert, ↓op_makeFunc, ↓op_makeSlice, ↓op_slice, ↓op_fieldAddr, ↓op_field, ↓op_indexAddr, ↓op_index, ↓op_extract, ↓op_lookup, ↓op_mapUpdate, ↓op_makeMap, ↓op_range, ↓op_next, ↓op_call, ↓op_builtin, ↓g_tt, ↓g_ff, ↓g_tf, ↓g_ft, ↓g_tnt, ↓g_tnf, ↓g_fnt, ↓g_fnf, ↓mkT_getD, hpu, hd]
    rw [orE_err hce]
    exact ⟨hair, VEnt.refl _⟩

theorem gEcho_ok : Holds Proofs.Tryz.prog G0 38 echo3C := by
  refine Holds.of_exC D38 Proofs.Tryz.func38 rfl foll (by kernel_rfl) (tab [(98, checkC), (99, steps2C), (105, passedC), (106, groundC), (iceKey 3, iceC)]) (tab_ok ⟨aCheck_ok, gSteps_ok, aPassed_ok, gGround_ok, ice_holds, trivial⟩) G0_ok fun k0 rl args hpu hpre => ?_
  unfold echo3C at hpre ⊢
  split at hpre
  rotate_left
  · exact hpre.elim
  rename_i n sz get a b c d e f
  obtain ⟨rfl, hair⟩ := hpre
  have hpu := hair.pu
  by_cases hce : checkE n get a b c d e f = 0
  · obtain ⟨hae, hp⟩ := checkE_zero.1 hce
    have hok := airE_ok hae
    have hb := ech_bd hp
    have hp' := hp
    obtain ⟨⟨a1, a2, a3⟩, ⟨a4, a5, a6⟩, a7⟩ := hp'
    have hst := fun i => stG_bd (n := n) (get := get) (flat := 0) (sq := ech a b c d e f) (y0 := 0) (y1 := f) ⟨hb.1, hb.2.1⟩ (show (0 : Int) ≤ c by omega) (show (0 : Int) ≤ f by omega) i
    simp only [Proofs.Tryz.f38]
    rw [enter_mkT (Nat.le_of_ble_eq_true rfl)]
    simp (maxSteps := 4000000) only [go_sem, ↓op_move, ↓op_assign, ↓op_pick, ↓op_alloc, ↓op_box, ↓op_build, ↓op_buildSlice, ↓op_load, ↓op_store, ↓op_nilCheck, ↓op_bin, ↓op_un, ↓op_convert, ↓op_makeFunc, ↓op_makeSlice, ↓op_slice, ↓op_fieldAddr, ↓op_field, ↓op_indexAddr, ↓op_index, ↓op_extract, ↓op_lookup, ↓op_mapUpdate, ↓op_makeMap, ↓op_range, ↓op_next, ↓op_call, ↓op_builtin, ↓g_tt, ↓g_ff, ↓g_tf, ↓g_ft, ↓g_tnt, ↓g_tnf, ↓g_fnt, ↓g_fnf, ↓mkT_getD, hpu, hce]
    rw [orE_no rfl]
    refine ⟨hair, hp, ⟨hair, hok, ⟨hb.1, hb.2.1⟩, by omega, by omega, by omega, by omega⟩, ⟨hair, hok, isIv_fn _ _ hair.1, fun i hi => ?_⟩, VEnt.of_eq rfl⟩
    have := hst i
    omega
  · have hd : decide (checkE n get a b c d e f = 0) = false := decide_eq_false hce
    simp only [Proofs.Tryz.f38]
    rw [enter_mkT (Nat.le_of_ble_eq_true rfl)]
    simp (maxSteps := 4000000) only [go_sem, ↓op_move, ↓op_assign, ↓op_pick, ↓op_alloc, ↓op_box, ↓op_build, ↓op_buildSlice, ↓op_load, ↓op_store, ↓op_nilCheck, ↓op_bin, ↓op_un, ↓op_convert, ↓op_makeFunc, ↓op_makeSlice, ↓op_slice, ↓op_fieldAddr, ↓op_field, ↓op_indexAddr, ↓op_index, ↓op_extract, ↓op_lookup, ↓op_mapUpdate, ↓op_makeMap, ↓op_range, ↓op_next, ↓op_call, ↓op_builtin, ↓g_tt, ↓g_ff, ↓g_tf, ↓g_ft, ↓g_tnt, ↓g_tnf, ↓g_fnt, ↓g_fnf, ↓mkT_getD, hpu, hd]
    rw [orE_err hce]
    exact ⟨hair, VEnt.refl _⟩
end Go.Fly.Tryz
