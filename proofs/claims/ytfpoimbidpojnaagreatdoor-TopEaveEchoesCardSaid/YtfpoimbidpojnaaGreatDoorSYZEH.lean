/- Part of a proof: an evaluator of the model's code by abstract values, and plain laws for it. No conditions. -/
import Derived.Test.YtfpoimbidpojnaaGreatDoorSYZED
import Derived.Test.YtfpoimbidpojnaaGreatDoorSYZCE
import Derived.Test.YtfpoimbidpojnaaGreatDoorAS
import Derived.Test.YtfpoimbidpojnaaGreatDoorSYZEF
import Derived.Test.YtfpoimbidpojnaaGreatDoorSYZEE
import Derived.Test.YtfpoimbidpojnaaGreatDoorSYZBG
import Derived.Test.YtfpoimbidpojnaaGreatDoorAT
set_option linter.unusedSimpArgs false
set_option linter.unusedVariables false
section
/- The verifier: copies of walls, steps, airs; what arrives. -/
set_option maxRecDepth 100000
set_option maxHeartbeats 2000000
namespace Go.Fly.Tryz
open Go

theorem vAir_ok : Holds Proofs.Tryz.prog G0 12 airCopyC := by
  refine Holds.of_exC D12 Proofs.Tryz.func12 rfl foll (by kernel_rfl) (tab []) (tab_ok trivial) G0_ok fun k0 rl args hpu hpre => ?_
  unfold airCopyC at hpre ⊢
  split at hpre
  rotate_left
  · exact hpre.elim
  rename_i n sz get
  obtain ⟨rfl, hair, hn8, hb8⟩ := hpre
  have hp := hair.pu
  simp only [Proofs.Tryz.f12]
  rw [enter_mkT (Nat.le_of_ble_eq_true rfl)]
  simp (maxSteps := 4000000) only [go_sem, ↓op_move, ↓op_assign, ↓op_pick, ↓op_alloc, ↓op_box, ↓op_build, ↓op_buildSlice, ↓op_load, ↓op_store, ↓op_nilCheck, ↓op_bin, ↓op_un, ↓op_convert, ↓op_makeFunc, ↓op_makeSlice, ↓op_slice, ↓op_fieldAddr, ↓op_field, ↓op_indexAddr, ↓op_index, ↓op_extract, ↓op_lookup, ↓op_mapUpdate, ↓op_makeMap, ↓op_range, ↓op_next, ↓op_call, ↓op_builtin, ↓g_tt, ↓g_ff, ↓g_tf, ↓g_ft, ↓g_tnt, ↓g_tnf, ↓g_fnt, ↓g_fnf, ↓mkT_getD, hp]
  refine RestT.ents (Ents.nilArr (d := 3) (l := (4, 1000)) 5 (fun _ => []) rfl rfl rfl) ?_
  simp (maxSteps := 4000000) only [go_sem, ↓op_move, ↓op_assign, ↓op_pick, ↓op_alloc, ↓op_box, ↓op_build, ↓op_buildSlice, ↓op_load, ↓op_store, ↓op_nilCheck, ↓op_bin, ↓op_un, ↓op_convert, ↓op_makeFunc, ↓op_makeSlice, ↓op_slice, ↓op_fieldAddr, ↓op_field, ↓op_indexAddr, ↓op_index, ↓op_extract, ↓op_lookup, ↓op_mapUpdate, ↓op_makeMap, ↓op_range, ↓op_next, ↓op_call, ↓op_builtin, ↓g_tt, ↓g_ff, ↓g_tf, ↓g_ft, ↓g_tnt, ↓g_tnf, ↓g_fnt, ↓g_fnf, ↓mkT_getD]
  refine RestT.loopF (β := Nat) [(3, 3), (5, 5), (8, 26)] (fun i => [(3, .msl (4, 1000) 0 i), (8, .int .i64 i)]) (fun i => updH (fun _ => none) (4, 1000) (.arr i 5 get)) (fun i => i ≤ n) (fun i => n - i) 0 (Nat.zero_le _) ?_
    (HpLe.arr1 (updH_same _ _ _) rfl rfl fun i hi => by omega) ?_
  · simp (maxSteps := 4000000) only [go_sem, ↓op_move, ↓op_assign, ↓op_pick, ↓op_alloc, ↓op_box, ↓op_build, ↓op_buildSlice, ↓op_load, ↓op_store, ↓op_nilCheck, ↓op_bin, ↓op_un, ↓op_convert, ↓op_makeFunc, ↓op_makeSlice, ↓op_slice, ↓op_fieldAddr, ↓op_field, ↓op_indexAddr, ↓op_index, ↓op_extract, ↓op_lookup, ↓op_mapUpdate, ↓op_makeMap, ↓op_range, ↓op_next, ↓op_call, ↓op_builtin, ↓g_tt, ↓g_ff, ↓g_tf, ↓g_ft, ↓g_tnt, ↓g_tnf, ↓g_fnt, ↓g_fnf, ↓mkT_getD]
    try exact rfl
  · intro ck i hck hi
    have hk0 : ¬ ck = 0 := by omega
    generalize hq0 : exC _ _ _ _ _ = gg
    by_cases hlt : i < n
    · have hd : decide ((i : Int) < (n : Int)) = true := by simp; omega
      obtain ⟨hg, hiv⟩ := hair.2 i hlt
      have hp2 := hiv.pu
      have hbi := hb8 i hlt
      rw [← hq0]
      clear hq0
      have hz : 0 + inN get i 4 = inN get i 4 := Nat.zero_add _
      simp (maxSteps := 4000000) only [go_sem, ↓op_move, ↓op_assign, ↓op_pick, ↓op_alloc, ↓op_box, ↓op_build, ↓op_buildSlice, ↓op_load, ↓op_store, ↓op_nilCheck, ↓op_bin, ↓op_un, ↓op_convert, ↓op_makeFunc, ↓op_makeSlice, ↓op_slice, ↓op_fieldAddr, ↓op_field, ↓op_indexAddr, ↓op_index, ↓op_extract, ↓op_lookup, ↓op_mapUpdate, ↓op_makeMap, ↓op_range, ↓op_next, ↓op_call, ↓op_builtin, ↓g_tt, ↓g_ff, ↓g_tf, ↓g_ft, ↓g_tnt, ↓g_tnf, ↓g_fnt, ↓g_fnf, ↓mkT_getD, hd, hg, hp, hp2, hk0, app0, hz]
      refine ⟨⟨by omega, by omega⟩, ⟨by omega, by omega, ivs_ok hiv⟩, ⟨by omega, by omega, row_ok rfl (ones5s hp2)⟩, inK_of (by omega) (by omega), i + 1, hlt, by omega, ⟨rfl, rfl⟩, HpLe.upd HpLe.none ⟨_, ?_, objLe_arr fun j hj => snoc (f := get) rfl hg hj⟩⟩
      simp (maxSteps := 4000000) only [go_sem, ↓op_move, ↓op_assign, ↓op_pick, ↓op_alloc, ↓op_box, ↓op_build, ↓op_buildSlice, ↓op_load, ↓op_store, ↓op_nilCheck, ↓op_bin, ↓op_un, ↓op_convert, ↓op_makeFunc, ↓op_makeSlice, ↓op_slice, ↓op_fieldAddr, ↓op_field, ↓op_indexAddr, ↓op_index, ↓op_extract, ↓op_lookup, ↓op_mapUpdate, ↓op_makeMap, ↓op_range, ↓op_next, ↓op_call, ↓op_builtin, ↓g_tt, ↓g_ff, ↓g_tf, ↓g_ft, ↓g_tnt, ↓g_tnf, ↓g_fnt, ↓g_fnf, ↓mkT_getD, hk0]
    · have hd : decide ((i : Int) < (n : Int)) = false := by simp; omega
      obtain rfl : i = n := by omega
      rw [← hq0]
      clear hq0
      simp (maxSteps := 4000000) only [go_sem, ↓op_move, ↓op_assign, ↓op_pick, ↓op_alloc, ↓op_box, ↓op_build, ↓op_buildSlice, ↓op_load, ↓op_store, ↓op_nilCheck, ↓op_bin, ↓op_un, ↓op_convert, ↓op_makeFunc, ↓op_makeSlice, ↓op_slice, ↓op_fieldAddr, ↓op_field, ↓op_indexAddr, ↓op_index, ↓op_extract, ↓op_lookup, ↓op_mapUpdate, ↓op_makeMap, ↓op_range, ↓op_next, ↓op_call, ↓op_builtin, ↓g_tt, ↓g_ff, ↓g_tf, ↓g_ft, ↓g_tnt, ↓g_tnf, ↓g_fnt, ↓g_fnf, ↓mkT_getD, hd, hp, hk0, Nat.zero_add, if_true]
      exact VEnt.sl fun i hi => frzRow_sl hair.pu hi

theorem vWalls_ok : Holds Proofs.Tryz.prog G0 10 walls2C := by
  refine Holds.of_exC D10 Proofs.Tryz.func10 rfl foll (by kernel_rfl) (tab []) (tab_ok trivial) G0_ok fun k0 rl args hpu hpre => ?_
  unfold walls2C at hpre ⊢
  split at hpre
  rotate_left
  · exact hpre.elim
  rename_i w
  obtain ⟨hw, hwl, hn⟩ := hpre
  rcases hw with rfl | ⟨n, get, rfl⟩
  · simp only [Proofs.Tryz.f10]
    rw [enter_mkT (Nat.le_of_ble_eq_true rfl)]
    simp (maxSteps := 4000000) only [go_sem, ↓op_move, ↓op_assign, ↓op_pick, ↓op_alloc, ↓op_box, ↓op_build, ↓op_buildSlice, ↓op_load, ↓op_store, ↓op_nilCheck, ↓op_bin, ↓op_un, ↓op_convert, ↓op_makeFunc, ↓op_makeSlice, ↓op_slice, ↓op_fieldAddr, ↓op_field, ↓op_indexAddr, ↓op_index, ↓op_extract, ↓op_lookup, ↓op_mapUpdate, ↓op_makeMap, ↓op_range, ↓op_next, ↓op_call, ↓op_builtin, ↓g_tt, ↓g_ff, ↓g_tf, ↓g_ft, ↓g_tnt, ↓g_tnf, ↓g_fnt, ↓g_fnf, ↓mkT_getD]
    refine RestT.loopF (β := Nat) [(3, 3), (5, 5), (8, 16)] (fun i => [(3, .nils), (8, .int .i64 0)]) (fun i => fun _ => none) (fun i => True) (fun i => 0) 0 trivial ?_ HpLe.none ?_
    · simp (maxSteps := 4000000) only [go_sem, ↓op_move, ↓op_assign, ↓op_pick, ↓op_alloc, ↓op_box, ↓op_build, ↓op_buildSlice, ↓op_load, ↓op_store, ↓op_nilCheck, ↓op_bin, ↓op_un, ↓op_convert, ↓op_makeFunc, ↓op_makeSlice, ↓op_slice, ↓op_fieldAddr, ↓op_field, ↓op_indexAddr, ↓op_index, ↓op_extract, ↓op_lookup, ↓op_mapUpdate, ↓op_makeMap, ↓op_range, ↓op_next, ↓op_call, ↓op_builtin, ↓g_tt, ↓g_ff, ↓g_tf, ↓g_ft, ↓g_tnt, ↓g_tnf, ↓g_fnt, ↓g_fnf, ↓mkT_getD]
      try exact rfl
    · intro ck i hck hi
      have hd : decide ((0 : Int) < 0) = false := rfl
      simp (maxSteps := 4000000) only [go_sem, ↓op_move, ↓op_assign, ↓op_pick, ↓op_alloc, ↓op_box, ↓op_build, ↓op_buildSlice, ↓op_load, ↓op_store, ↓op_nilCheck, ↓op_bin, ↓op_un, ↓op_convert, ↓op_makeFunc, ↓op_makeSlice, ↓op_slice, ↓op_fieldAddr, ↓op_field, ↓op_indexAddr, ↓op_index, ↓op_extract, ↓op_lookup, ↓op_mapUpdate, ↓op_makeMap, ↓op_range, ↓op_next, ↓op_call, ↓op_builtin, ↓g_tt, ↓g_ff, ↓g_tf, ↓g_ft, ↓g_tnt, ↓g_tnf, ↓g_fnt, ↓g_fnf, ↓mkT_getD, hd]
      exact VEnt.nils _ _
  · have hp := hwl.pu
    have hn : n ≤ 1000000 := hn
    have hwl : IsWalls n get := hwl
    simp only [Proofs.Tryz.f10]
    rw [enter_mkT (Nat.le_of_ble_eq_true rfl)]
    simp (maxSteps := 4000000) only [go_sem, ↓op_move, ↓op_assign, ↓op_pick, ↓op_alloc, ↓op_box, ↓op_build, ↓op_buildSlice, ↓op_load, ↓op_store, ↓op_nilCheck, ↓op_bin, ↓op_un, ↓op_convert, ↓op_makeFunc, ↓op_makeSlice, ↓op_slice, ↓op_fieldAddr, ↓op_field, ↓op_indexAddr, ↓op_index, ↓op_extract, ↓op_lookup, ↓op_mapUpdate, ↓op_makeMap, ↓op_range, ↓op_next, ↓op_call, ↓op_builtin, ↓g_tt, ↓g_ff, ↓g_tf, ↓g_ft, ↓g_tnt, ↓g_tnf, ↓g_fnt, ↓g_fnf, ↓mkT_getD, hp]
    refine RestT.ents (Ents.nilArr (d := 3) (l := (4, 1000)) 7 (fun _ => []) rfl rfl rfl) ?_
    simp (maxSteps := 4000000) only [go_sem, ↓op_move, ↓op_assign, ↓op_pick, ↓op_alloc, ↓op_box, ↓op_build, ↓op_buildSlice, ↓op_load, ↓op_store, ↓op_nilCheck, ↓op_bin, ↓op_un, ↓op_convert, ↓op_makeFunc, ↓op_makeSlice, ↓op_slice, ↓op_fieldAddr, ↓op_field, ↓op_indexAddr, ↓op_index, ↓op_extract, ↓op_lookup, ↓op_mapUpdate, ↓op_makeMap, ↓op_range, ↓op_next, ↓op_call, ↓op_builtin, ↓g_tt, ↓g_ff, ↓g_tf, ↓g_ft, ↓g_tnt, ↓g_tnf, ↓g_fnt, ↓g_fnf, ↓mkT_getD]
    refine RestT.loopF (β := Nat) [(3, 3), (5, 5), (8, 16)] (fun i => [(3, .msl (4, 1000) 0 i), (8, .int .i64 i)]) (fun i => updH (fun _ => none) (4, 1000) (.arr i 7 get)) (fun i => i ≤ n) (fun i => n - i) 0 (Nat.zero_le _) ?_
      (HpLe.arr1 (updH_same _ _ _) rfl rfl fun i hi => by omega) ?_
    · simp (maxSteps := 4000000) only [go_sem, ↓op_move, ↓op_assign, ↓op_pick, ↓op_alloc, ↓op_box, ↓op_build, ↓op_buildSlice, ↓op_load, ↓op_store, ↓op_nilCheck, ↓op_bin, ↓op_un, ↓op_convert, ↓op_makeFunc, ↓op_makeSlice, ↓op_slice, ↓op_fieldAddr, ↓op_field, ↓op_indexAddr, ↓op_index, ↓op_extract, ↓op_lookup, ↓op_mapUpdate, ↓op_makeMap, ↓op_range, ↓op_next, ↓op_call, ↓op_builtin, ↓g_tt, ↓g_ff, ↓g_tf, ↓g_ft, ↓g_tnt, ↓g_tnf, ↓g_fnt, ↓g_fnf, ↓mkT_getD]
      try exact rfl
    · intro ck i hck hi
      generalize hq0 : exC _ _ _ _ _ = gg
      by_cases hlt : i < n
      · have hd : decide ((i : Int) < (n : Int)) = true := by simp; omega
        have hg := (hwl.2 i hlt).1
        rw [← hq0]
        clear hq0
        simp (maxSteps := 4000000) only [go_sem, ↓op_move, ↓op_assign, ↓op_pick, ↓op_alloc, ↓op_box, ↓op_build, ↓op_buildSlice, ↓op_load, ↓op_store, ↓op_nilCheck, ↓op_bin, ↓op_un, ↓op_convert, ↓op_makeFunc, ↓op_makeSlice, ↓op_slice, ↓op_fieldAddr, ↓op_field, ↓op_indexAddr, ↓op_index, ↓op_extract, ↓op_lookup, ↓op_mapUpdate, ↓op_makeMap, ↓op_range, ↓op_next, ↓op_call, ↓op_builtin, ↓g_tt, ↓g_ff, ↓g_tf, ↓g_ft, ↓g_tnt, ↓g_tnf, ↓g_fnt, ↓g_fnf, ↓mkT_getD, hd, hg, hp]
        exact ⟨⟨by omega, by omega⟩, ⟨by omega, by omega, row_ok rfl ones7⟩, inK_of (by omega) (by omega), i + 1, hlt, by omega, ⟨rfl, rfl⟩, HpLe.arr1 (updH_same _ _ _) rfl rfl fun j hj => snoc (f := get) rfl hg hj⟩
      · have hd : decide ((i : Int) < (n : Int)) = false := by simp; omega
        obtain rfl : i = n := by omega
        rw [← hq0]
        clear hq0
        simp (maxSteps := 4000000) only [go_sem, ↓op_move, ↓op_assign, ↓op_pick, ↓op_alloc, ↓op_box, ↓op_build, ↓op_buildSlice, ↓op_load, ↓op_store, ↓op_nilCheck, ↓op_bin, ↓op_un, ↓op_convert, ↓op_makeFunc, ↓op_makeSlice, ↓op_slice, ↓op_fieldAddr, ↓op_field, ↓op_indexAddr, ↓op_index, ↓op_extract, ↓op_lookup, ↓op_mapUpdate, ↓op_makeMap, ↓op_range, ↓op_next, ↓op_call, ↓op_builtin, ↓g_tt, ↓g_ff, ↓g_tf, ↓g_ft, ↓g_tnt, ↓g_tnf, ↓g_fnt, ↓g_fnf, ↓mkT_getD, hd, hp, Nat.zero_add, if_true]
        exact VEnt.sl fun i hi => frzRow_sl hwl.pu hi
end Go.Fly.Tryz
end
section
/- The verifier: whether a town fits; the fixed example. -/
set_option maxRecDepth 100000
set_option maxHeartbeats 4000000
namespace Go.Fly.Tryz
open Go

theorem aLen2_ok : Holds Proofs.Tryz.prog G0 6 airLen2C := by
  refine Holds.of_exC D6 Proofs.Tryz.func6 rfl foll (by kernel_rfl) (tab [(23, pathC), (24, rootsC), (25, straightC), (iceKey 1, iceC)]) (tab_ok ⟨aPath_ok, aRoots_ok, aStraight_ok, ice_holds, trivial⟩) G0_ok fun k0 rl args hpu hpre => ?_
  unfold airLen2C at hpre ⊢
  split at hpre
  rotate_left
  · exact hpre.elim
  rename_i a b c d e f
  have hp := hpre
  have hp0 := pathE_zero.2 hp
  have hsq := sqE_bd hp
  simp only [Proofs.Tryz.f6]
  rw [enter_mkT (Nat.le_of_ble_eq_true rfl)]
  simp (maxSteps := 4000000) only [go_sem, ↓op_move, ↓op_assign, ↓op_pick, ↓op_alloc, ↓op_box, ↓op_build, ↓op_buildSlice, ↓op_load, ↓op_store, ↓op_nilCheck, ↓op_bin, ↓op_un, ↓op_convert, ↓op_makeFunc, ↓op_makeSlice, ↓op_slice, ↓op_fieldAddr, ↓op_field, ↓op_indexAddr, ↓op_index, ↓op_extract, ↓op_lookup, ↓op_mapUpdate, ↓op_makeMap, ↓op_range, ↓op_next, ↓op_call, ↓op_builtin, ↓g_tt, ↓g_ff, ↓g_tf, ↓g_ft, ↓g_tnt, ↓g_tnf, ↓g_fnt, ↓g_fnf, ↓mkT_getD, hp0]
  exact ⟨hp, ⟨hsq.1, by omega⟩, VEnt.of_eq rfl⟩

theorem vFits_ok : Holds Proofs.Tryz.prog G0 5 townFitsC := by
  refine Holds.of_exC D5 Proofs.Tryz.func5 rfl foll (by kernel_rfl) (tab [(16, shortWallsC), (17, wallsC), (18, tableC), (19, shortAirC), (20, airC), (21, spots2C), (22, withinC), (iceKey 1, iceC)]) (tab_ok ⟨rShortW_ok, rWalls_ok, rTable_ok, rAirShort_ok, rAir_ok, rSpots_ok, qRange_ok, ice_holds, trivial⟩) G0_ok fun k0 rl args hpu hpre => ?_
  unfold townFitsC at hpre ⊢
  split at hpre
  rotate_left
  · exact hpre.elim
  rename_i nw sw gw nt st gt na sa ga a b c d e f en
  obtain ⟨⟨rfl, rfl, rfl⟩, hw, ht, ha⟩ := hpre
  have hp1 := hw.pu
  have hp2 := ht.pu
  have hp3 := ha.pu
  obtain ⟨F, hF⟩ : ∃ F, fitsT nw gw nt gt na ga a b c d e f en = F := ⟨_, rfl⟩
  have no : F = false → VEnt (.bool false) (.bool F) := fun h => VEnt.of_eq (by rw [h])
  simp only [Proofs.Tryz.f5]
  rw [enter_mkT (Nat.le_of_ble_eq_true rfl)]
  simp (maxSteps := 4000000) only [go_sem, ↓op_move, ↓op_assign, ↓op_pick, ↓op_alloc, ↓op_box, ↓op_build, ↓op_buildSlice, ↓op_load, ↓op_store, ↓op_nilCheck, ↓op_bin, ↓op_un, ↓op_convert, ↓op_makeFunc, ↓op_makeSlice, ↓op_slice, ↓op_fieldAddr, ↓op_field, ↓op_indexAddr, ↓op_index, ↓op_extract, ↓op_lookup, ↓op_mapUpdate, ↓op_makeMap, ↓op_range, ↓op_next, ↓op_call, ↓op_builtin, ↓g_tt, ↓g_ff, ↓g_tf, ↓g_ft, ↓g_tnt, ↓g_tnf, ↓g_fnt, ↓g_fnf, ↓mkT_getD, hp1, hp2, hp3, hF]
  unfold fitsT at hF
  refine ⟨fun h1 => ⟨hw, fun h2 => ⟨hw, fun h3 => ⟨fun h4 => ⟨ht, fun h5 => ⟨ha, fun h6 => ⟨ha, fun h7 => ⟨fun h8 => ⟨fun h9 => VEnt.of_eq ?_, fun h9 => no ?_⟩, fun h8 => no ?_⟩, fun h7 => no ?_⟩, fun h6 => no ?_⟩, fun h5 => no ?_⟩, fun h4 => no ?_⟩, fun h3 => no ?_⟩, fun h2 => no ?_⟩, fun h1 => no ?_⟩
  · rw [← hF]; simp only [h1, h2, h3, h4, h5, h6, h7, h8, h9, decide_true, Bool.true_and]
  all_goals
    rw [← hF]; simp [*]

theorem vWay_ok : Holds Proofs.Tryz.prog G0 4 trueC := by
  refine Holds.of_exC D4 Proofs.Tryz.func4 rfl foll (by kernel_rfl) (tab [(6, airLen2C), (7, length2C), (14, screen2C), (15, arrived2C), (iceKey 26, iceC), (iceKey 30, iceC), (iceKey 41, iceC), (iceKey 43, iceC), (iceKey 45, iceC)]) (tab_ok ⟨aLen2_ok, tLength2_ok, tScreen2_ok, aArrived_ok, ice_holds, ice_holds, ice_holds, ice_holds, ice_holds, trivial⟩) G0_ok fun k0 rl args hpu hpre => ?_
  unfold trueC at hpre ⊢
  split at hpre
  rotate_left
  · exact hpre.elim
  have p1 : Pu (.sl 1 7 wayW) := wayW_is.pu
  have p2 : Pu (.sl 1 2 wayT) := wayT_is.pu
  have p3 : Pu (.sl 1 2 wayP) := wayP_is.pu
  have p4 : Pu (.sl 1 5 wayA) := wayA_is.pu
  have p5 : Pu (.sl 1 1 wayE) := wayE_is.pu
  have d1 : decide ((12 : Int) = 12) = true := rfl
  have d2 : decide ((13 : Int) = 13) = true := rfl
  have d3 : decide ((800 : Int) = 800) = true := rfl
  have d4 : decide ((720 : Int) = 720) = true := rfl
  simp only [Proofs.Tryz.f4]
  rw [enter_mkT (Nat.le_of_ble_eq_true rfl)]
  simp (maxSteps := 4000000) only [go_sem, ↓op_move, ↓op_assign, ↓op_pick, ↓op_alloc, ↓op_box, ↓op_build, ↓op_buildSlice, ↓op_load, ↓op_store, ↓op_nilCheck, ↓op_bin, ↓op_un, ↓op_convert, ↓op_makeFunc, ↓op_makeSlice, ↓op_slice, ↓op_fieldAddr, ↓op_field, ↓op_indexAddr, ↓op_index, ↓op_extract, ↓op_lookup, ↓op_mapUpdate, ↓op_makeMap, ↓op_range, ↓op_next, ↓op_call, ↓op_builtin, ↓g_tt, ↓g_ff, ↓g_tf, ↓g_ft, ↓g_tnt, ↓g_tnf, ↓g_fnt, ↓g_fnf, ↓mkT_getD, wayW_eq, wayT_eq, wayP_eq, wayA_eq, wayE_eq, p1, p2, p3, p4, p5, way1, way2, way3, way4, way5, way6, way7, way8, d1, d2, d3, d4]
  exact ⟨way9, ⟨wayW_is, wayW_ok, wayT_is, wayT_ok, way10, way11⟩, ⟨wayA_is, wayA_ae, way9, wayE_is, wayA_in.symm, one_case (by rw [wayE_at]; decide)⟩, VEnt.of_eq rfl⟩
end Go.Fly.Tryz
end
