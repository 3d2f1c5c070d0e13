/- The verifier: copies of walls, steps, airs; what arrives. -/
import Derived.Test.YtfpoimbidpojnaaDoorSYEED
import Derived.Test.YtfpoimbidpojnaaDoorSYEBP
import Derived.Test.YtfpoimbidpojnaaDoorAQ
set_option linter.unusedSimpArgs false
set_option linter.unusedVariables false
set_option maxRecDepth 100000
set_option maxHeartbeats 2000000
namespace Go.Fly.Tryd
open Go

theorem vAir_ok : Holds Proofs.Tryd.prog G0 9 airCopyC := by
  refine Holds.of_exC D9 Proofs.Tryd.func9 rfl foll (by kernel_rfl) (tab []) (tab_ok trivial) G0_ok fun k0 rl args hpu hpre => ?_
  unfold airCopyC at hpre ⊢
  split at hpre
  rotate_left
  · exact hpre.elim
  rename_i n sz get
  obtain ⟨rfl, hair, hn8, hb8⟩ := hpre
  have hp := hair.pu
  simp only [Proofs.Tryd.f9]
  rw [enter_mkT (Nat.le_of_ble_eq_true rfl)]
  simp (maxSteps := 4000000) only [go_sem, ↓op_move, ↓op_assign, ↓op_pick, ↓op_alloc, ↓op_box, ↓op_build, ↓op_buildSlice, ↓op_load, ↓op_store, ↓op_nilCheck, ↓op_bin, ↓op_un, ↓op_convert, ↓op_makeFunc, ↓op_makeSlice, ↓op_slice, ↓op_fieldAddr, ↓op_field, ↓op_indexAddr, ↓op_index, ↓op_extract, ↓op_lookup, ↓op_mapUpdate, ↓op_makeMap, ↓op_range, ↓op_next, ↓op_call, ↓op_builtin, ↓g_tt, ↓g_ff, ↓g_tf, ↓g_ft, ↓g_tnt, ↓g_tnf, ↓g_fnt, ↓g_fnf, ↓mkT_getD, hp]
  refine RestT.ents (Ents.nilArr (d := 3) (l := (4, 1000)) 5 (fun _ => []) rfl rfl rfl) ?_
  simp (maxSteps := 4000000) only [go_sem, ↓op_move, ↓op_assign, ↓op_pick, ↓op_alloc, ↓op_box, ↓op_build, ↓op_buildSlice, ↓op_load, ↓op_store, ↓op_nilCheck, ↓op_bin, ↓op_un, ↓op_convert, ↓op_makeFunc, ↓op_makeSlice, ↓op_slice, ↓op_fieldAddr, ↓op_field, ↓op_indexAddr, ↓op_index, ↓op_extract, ↓op_lookup, ↓op_mapUpdate, ↓op_makeMap, ↓op_range, ↓op_next, ↓op_call, ↓op_builtin, ↓g_tt, ↓g_ff, ↓g_tf, ↓g_ft, ↓g_tnt, ↓g_tnf, ↓g_fnt, ↓g_fnf, ↓mkT_getD]
  refine RestT.loopF (β := Nat) [(3, 3), (5, 5), (8, 26)] (fun i => [(3, .msl (4, 1000) 0 i), (8, .int .i64 i)]) (fun i => updH (fun _ => none) (4, 1000) (.arr i 5 get)) (fun i => i ≤ n) (fun i => n - i) 0 (Nat.zero_le _) ?_
    (HpLe.arr1 (updH_same _ _ _) rfl rfl fun i hi => by omega) ?_
  · simp (maxSteps := 4000000) only [go_sem, ↓op_move, ↓op_assign, ↓op_pick, ↓op_alloc, ↓op_box, ↓op_build, ↓op_buildSlice, ↓op_load, ↓op_store, ↓op_nilCheck, ↓op_bin, ↓op_un, ↓op_convert, ↓op_makeFunc, ↓op_makeSlice, ↓op_slice, ↓op_fieldAddr, ↓op_field, ↓op_indexAddr, ↓op_index, ↓op_extract, ↓op_lookup, ↓op_mapUpdate, ↓op_makeMap, ↓op_range, ↓op_next, ↓op_call, ↓op_builtin, ↓g_tt, ↓g_ff, ↓g_tf, ↓g_ft, ↓g_tnt, ↓g_tnf, ↓g_fnt, ↓g_fnf, ↓mkT_getD]
    try exact rfl
  · intro ck i hck hi
    have hk0 : ¬ ck = 0 := by omega
    generalize hq0 : exC _ _ _ _ _ = gg
    by_cases hlt : i < n
    · have hd : decide ((i : Int) < (n : Int)) = true := by simp; omega
      obtain ⟨hg, hiv⟩ := hair.2 i hlt
      have hp2 := hiv.pu
      have hbi := hb8 i hlt
      rw [← hq0]
      clear hq0
      have hz : 0 + inN get i 4 = inN get i 4 := Nat.zero_add _
      simp (maxSteps := 4000000) only [go_sem, ↓op_move, ↓op_assign, ↓op_pick, ↓op_alloc, ↓op_box, ↓op_build, ↓op_buildSlice, ↓op_load, ↓op_store, ↓op_nilCheck, ↓op_bin, ↓op_un, ↓op_convert, ↓op_makeFunc, ↓op_makeSlice, ↓op_slice, ↓op_fieldAddr, ↓op_field, ↓op_indexAddr, ↓op_index, ↓op_extract, ↓op_lookup, ↓op_mapUpdate, ↓op_makeMap, ↓op_range, ↓op_next, ↓op_call, ↓op_builtin, ↓g_tt, ↓g_ff, ↓g_tf, ↓g_ft, ↓g_tnt, ↓g_tnf, ↓g_fnt, ↓g_fnf, ↓mkT_getD, hd, hg, hp, hp2, hk0, app0, hz]
      refine ⟨⟨by omega, by omega⟩, ⟨by omega, by omega, ivs_ok hiv⟩, ⟨by omega, by omega, row_ok rfl (ones5s hp2)⟩, inK_of (by omega) (by omega), i + 1, hlt, by omega, ⟨rfl, rfl⟩, HpLe.upd HpLe.none ⟨_, ?_, objLe_arr fun j hj => snoc (f := get) rfl hg hj⟩⟩
      simp (maxSteps := 4000000) only [go_sem, ↓op_move, ↓op_assign, ↓op_pick, ↓op_alloc, ↓op_box, ↓op_build, ↓op_buildSlice, ↓op_load, ↓op_store, ↓op_nilCheck, ↓op_bin, ↓op_un, ↓op_convert, ↓op_makeFunc, ↓op_makeSlice, ↓op_slice, ↓op_fieldAddr, ↓op_field, ↓op_indexAddr, ↓op_index, ↓op_extract, ↓op_lookup, ↓op_mapUpdate, ↓op_makeMap, ↓op_range, ↓op_next, ↓op_call, ↓op_builtin, ↓g_tt, ↓g_ff, ↓g_tf, ↓g_ft, ↓g_tnt, ↓g_tnf, ↓g_fnt, ↓g_fnf, ↓mkT_getD, hk0]
    · have hd : decide ((i : Int) < (n : Int)) = false := by simp; omega
      obtain rfl : i = n := by omega
      rw [← hq0]
      clear hq0
      simp (maxSteps := 4000000) only [go_sem, ↓op_move, ↓op_assign, ↓op_pick, ↓op_alloc, ↓op_box, ↓op_build, ↓op_buildSlice, ↓op_load, ↓op_store, ↓op_nilCheck, ↓op_bin, ↓op_un, ↓op_convert, ↓op_makeFunc, ↓op_makeSlice, ↓op_slice, ↓op_fieldAddr, ↓op_field, ↓op_indexAddr, ↓op_index, ↓op_extract, ↓op_lookup, ↓op_mapUpdate, ↓op_makeMap, ↓op_range, ↓op_next, ↓op_call, ↓op_builtin, ↓g_tt, ↓g_ff, ↓g_tf, ↓g_ft, ↓g_tnt, ↓g_tnf, ↓g_fnt, ↓g_fnf, ↓mkT_getD, hd, hp, hk0, Nat.zero_add, if_true]
      exact VEnt.sl fun i hi => frzRow_sl hair.pu hi

theorem vSteps_ok : Holds Proofs.Tryd.prog G0 23 steps2cC := by
  refine Holds.of_exC D23 Proofs.Tryd.func23 rfl foll (by kernel_rfl) (tab []) (tab_ok trivial) G0_ok fun k0 rl args hpu hpre => ?_
  unfold steps2cC at hpre ⊢
  split at hpre
  rotate_left
  · exact hpre.elim
  rename_i n sz get
  obtain ⟨rfl, hiv, hn⟩ := hpre
  have hp := hiv.pu
  simp only [Proofs.Tryd.f23]
  rw [enter_mkT (Nat.le_of_ble_eq_true rfl)]
  simp (maxSteps := 4000000) only [go_sem, ↓op_move, ↓op_assign, ↓op_pick, ↓op_alloc, ↓op_box, ↓op_build, ↓op_buildSlice, ↓op_load, ↓op_store, ↓op_nilCheck, ↓op_bin, ↓op_un, ↓op_convert, ↓op_makeFunc, ↓op_makeSlice, ↓op_slice, ↓op_fieldAddr, ↓op_field, ↓op_indexAddr, ↓op_index, ↓op_extract, ↓op_lookup, ↓op_mapUpdate, ↓op_makeMap, ↓op_range, ↓op_next, ↓op_call, ↓op_builtin, ↓g_tt, ↓g_ff, ↓g_tf, ↓g_ft, ↓g_tnt, ↓g_tnf, ↓g_fnt, ↓g_fnf, ↓mkT_getD, hp]
  refine RestT.ents (Ents.nilArr (d := 3) (l := (4, 1000)) 2 (fun _ => []) rfl rfl rfl) ?_
  simp (maxSteps := 4000000) only [go_sem, ↓op_move, ↓op_assign, ↓op_pick, ↓op_alloc, ↓op_box, ↓op_build, ↓op_buildSlice, ↓op_load, ↓op_store, ↓op_nilCheck, ↓op_bin, ↓op_un, ↓op_convert, ↓op_makeFunc, ↓op_makeSlice, ↓op_slice, ↓op_fieldAddr, ↓op_field, ↓op_indexAddr, ↓op_index, ↓op_extract, ↓op_lookup, ↓op_mapUpdate, ↓op_makeMap, ↓op_range, ↓op_next, ↓op_call, ↓op_builtin, ↓g_tt, ↓g_ff, ↓g_tf, ↓g_ft, ↓g_tnt, ↓g_tnf, ↓g_fnt, ↓g_fnf, ↓mkT_getD]
  refine RestT.loopF (β := Nat) [(3, 3), (5, 5), (8, 16)] (fun i => [(3, .msl (4, 1000) 0 i), (8, .int .i64 i)]) (fun i => updH (fun _ => none) (4, 1000) (.arr i 2 get)) (fun i => i ≤ n) (fun i => n - i) 0 (Nat.zero_le _) ?_
    (HpLe.arr1 (updH_same _ _ _) rfl rfl fun i hi => by omega) ?_
  · simp (maxSteps := 4000000) only [go_sem, ↓op_move, ↓op_assign, ↓op_pick, ↓op_alloc, ↓op_box, ↓op_build, ↓op_buildSlice, ↓op_load, ↓op_store, ↓op_nilCheck, ↓op_bin, ↓op_un, ↓op_convert, ↓op_makeFunc, ↓op_makeSlice, ↓op_slice, ↓op_fieldAddr, ↓op_field, ↓op_indexAddr, ↓op_index, ↓op_extract, ↓op_lookup, ↓op_mapUpdate, ↓op_makeMap, ↓op_range, ↓op_next, ↓op_call, ↓op_builtin, ↓g_tt, ↓g_ff, ↓g_tf, ↓g_ft, ↓g_tnt, ↓g_tnf, ↓g_fnt, ↓g_fnf, ↓mkT_getD]
    try exact rfl
  · intro ck i hck hi
    generalize hq0 : exC _ _ _ _ _ = gg
    by_cases hlt : i < n
    · have hd : decide ((i : Int) < (n : Int)) = true := by simp; omega
      have hg := hiv.2 i hlt
      rw [← hq0]
      clear hq0
      simp (maxSteps := 4000000) only [go_sem, ↓op_move, ↓op_assign, ↓op_pick, ↓op_alloc, ↓op_box, ↓op_build, ↓op_buildSlice, ↓op_load, ↓op_store, ↓op_nilCheck, ↓op_bin, ↓op_un, ↓op_convert, ↓op_makeFunc, ↓op_makeSlice, ↓op_slice, ↓op_fieldAddr, ↓op_field, ↓op_indexAddr, ↓op_index, ↓op_extract, ↓op_lookup, ↓op_mapUpdate, ↓op_makeMap, ↓op_range, ↓op_next, ↓op_call, ↓op_builtin, ↓g_tt, ↓g_ff, ↓g_tf, ↓g_ft, ↓g_tnt, ↓g_tnf, ↓g_fnt, ↓g_fnf, ↓mkT_getD, hd, hg, hp]
      exact ⟨⟨by omega, by omega⟩, ⟨by omega, by omega, row_ok rfl ones2⟩, inK_of (by omega) (by omega), i + 1, hlt, by omega, ⟨rfl, rfl⟩, HpLe.arr1 (updH_same _ _ _) rfl rfl fun j hj => snoc (f := get) rfl hg hj⟩
    · have hd : decide ((i : Int) < (n : Int)) = false := by simp; omega
      obtain rfl : i = n := by omega
      rw [← hq0]
      clear hq0
      simp (maxSteps := 4000000) only [go_sem, ↓op_move, ↓op_assign, ↓op_pick, ↓op_alloc, ↓op_box, ↓op_build, ↓op_buildSlice, ↓op_load, ↓op_store, ↓op_nilCheck, ↓op_bin, ↓op_un, ↓op_convert, ↓op_makeFunc, ↓op_makeSlice, ↓op_slice, ↓op_fieldAddr, ↓op_field, ↓op_indexAddr, ↓op_index, ↓op_extract, ↓op_lookup, ↓op_mapUpdate, ↓op_makeMap, ↓op_range, ↓op_next, ↓op_call, ↓op_builtin, ↓g_tt, ↓g_ff, ↓g_tf, ↓g_ft, ↓g_tnt, ↓g_tnf, ↓g_fnt, ↓g_fnf, ↓mkT_getD, hd, hp, Nat.zero_add, if_true]
      exact VEnt.sl fun i hi => frzRow_sl hiv.pu hi

theorem vWalls_ok : Holds Proofs.Tryd.prog G0 22 walls2C := by
  refine Holds.of_exC D22 Proofs.Tryd.func22 rfl foll (by kernel_rfl) (tab []) (tab_ok trivial) G0_ok fun k0 rl args hpu hpre => ?_
  unfold walls2C at hpre ⊢
  split at hpre
  rotate_left
  · exact hpre.elim
  rename_i w
  obtain ⟨hw, hwl, hn⟩ := hpre
  rcases hw with rfl | ⟨n, get, rfl⟩
  · simp only [Proofs.Tryd.f22]
    rw [enter_mkT (Nat.le_of_ble_eq_true rfl)]
    simp (maxSteps := 4000000) only [go_sem, ↓op_move, ↓op_assign, ↓op_pick, ↓op_alloc, ↓op_box, ↓op_build, ↓op_buildSlice, ↓op_load, ↓op_store, ↓op_nilCheck, ↓op_bin, ↓op_un, ↓op_convert, ↓op_makeFunc, ↓op_makeSlice, ↓op_slice, ↓op_fieldAddr, ↓op_field, ↓op_indexAddr, ↓op_index, ↓op_extract, ↓op_lookup, ↓op_mapUpdate, ↓op_makeMap, ↓op_range, ↓op_next, ↓op_call, ↓op_builtin, ↓g_tt, ↓g_ff, ↓g_tf, ↓g_ft, ↓g_tnt, ↓g_tnf, ↓g_fnt, ↓g_fnf, ↓mkT_getD]
    refine RestT.loopF (β := Nat) [(3, 3), (5, 5), (8, 16)] (fun i => [(3, .nils), (8, .int .i64 0)]) (fun i => fun _ => none) (fun i => True) (fun i => 0) 0 trivial ?_ HpLe.none ?_
    · simp (maxSteps := 4000000) only [go_sem, ↓op_move, ↓op_assign, ↓op_pick, ↓op_alloc, ↓op_box, ↓op_build, ↓op_buildSlice, ↓op_load, ↓op_store, ↓op_nilCheck, ↓op_bin, ↓op_un, ↓op_convert, ↓op_makeFunc, ↓op_makeSlice, ↓op_slice, ↓op_fieldAddr, ↓op_field, ↓op_indexAddr, ↓op_index, ↓op_extract, ↓op_lookup, ↓op_mapUpdate, ↓op_makeMap, ↓op_range, ↓op_next, ↓op_call, ↓op_builtin, ↓g_tt, ↓g_ff, ↓g_tf, ↓g_ft, ↓g_tnt, ↓g_tnf, ↓g_fnt, ↓g_fnf, ↓mkT_getD]
      try exact rfl
    · intro ck i hck hi
      have hd : decide ((0 : Int) < 0) = false := rfl
      simp (maxSteps := 4000000) only [go_sem, ↓op_move, ↓op_assign, ↓op_pick, ↓op_alloc, ↓op_box, ↓op_build, ↓op_buildSlice, ↓op_load, ↓op_store, ↓op_nilCheck, ↓op_bin, ↓op_un, ↓op_convert, ↓op_makeFunc, ↓op_makeSlice, ↓op_slice, ↓op_fieldAddr, ↓op_field, ↓op_indexAddr, ↓op_index, ↓op_extract, ↓op_lookup, ↓op_mapUpdate, ↓op_makeMap, ↓op_range, ↓op_next, ↓op_call, ↓op_builtin, ↓g_tt, ↓g_ff, ↓g_tf, ↓g_ft, ↓g_tnt, ↓g_tnf, ↓g_fnt, ↓g_fnf, ↓mkT_getD, hd]
      exact VEnt.nils _ _
  · have hp := hwl.pu
    have hn : n ≤ 1000000 := hn
    have hwl : IsWalls n get := hwl
    simp only [Proofs.Tryd.f22]
    rw [enter_mkT (Nat.le_of_ble_eq_true rfl)]
    simp (maxSteps := 4000000) only [go_sem, ↓op_move, ↓op_assign, ↓op_pick, ↓op_alloc, ↓op_box, ↓op_build, ↓op_buildSlice, ↓op_load, ↓op_store, ↓op_nilCheck, ↓op_bin, ↓op_un, ↓op_convert, ↓op_makeFunc, ↓op_makeSlice, ↓op_slice, ↓op_fieldAddr, ↓op_field, ↓op_indexAddr, ↓op_index, ↓op_extract, ↓op_lookup, ↓op_mapUpdate, ↓op_makeMap, ↓op_range, ↓op_next, ↓op_call, ↓op_builtin, ↓g_tt, ↓g_ff, ↓g_tf, ↓g_ft, ↓g_tnt, ↓g_tnf, ↓g_fnt, ↓g_fnf, ↓mkT_getD, hp]
    refine RestT.ents (Ents.nilArr (d := 3) (l := (4, 1000)) 7 (fun _ => []) rfl rfl rfl) ?_
    simp (maxSteps := 4000000) only [go_sem, ↓op_move, ↓op_assign, ↓op_pick, ↓op_alloc, ↓op_box, ↓op_build, ↓op_buildSlice, ↓op_load, ↓op_store, ↓op_nilCheck, ↓op_bin, ↓op_un, ↓op_convert, ↓op_makeFunc, ↓op_makeSlice, ↓op_slice, ↓op_fieldAddr, ↓op_field, ↓op_indexAddr, ↓op_index, ↓op_extract, ↓op_lookup, ↓op_mapUpdate, ↓op_makeMap, ↓op_range, ↓op_next, ↓op_call, ↓op_builtin, ↓g_tt, ↓g_ff, ↓g_tf, ↓g_ft, ↓g_tnt, ↓g_tnf, ↓g_fnt, ↓g_fnf, ↓mkT_getD]
    refine RestT.loopF (β := Nat) [(3, 3), (5, 5), (8, 16)] (fun i => [(3, .msl (4, 1000) 0 i), (8, .int .i64 i)]) (fun i => updH (fun _ => none) (4, 1000) (.arr i 7 get)) (fun i => i ≤ n) (fun i => n - i) 0 (Nat.zero_le _) ?_
      (HpLe.arr1 (updH_same _ _ _) rfl rfl fun i hi => by omega) ?_
    · simp (maxSteps := 4000000) only [go_sem, ↓op_move, ↓op_assign, ↓op_pick, ↓op_alloc, ↓op_box, ↓op_build, ↓op_buildSlice, ↓op_load, ↓op_store, ↓op_nilCheck, ↓op_bin, ↓op_un, ↓op_convert, ↓op_makeFunc, ↓op_makeSlice, ↓op_slice, ↓op_fieldAddr, ↓op_field, ↓op_indexAddr, ↓op_index, ↓op_extract, ↓op_lookup, ↓op_mapUpdate, ↓op_makeMap, ↓op_range, ↓op_next, ↓op_call, ↓op_builtin, ↓g_tt, ↓g_ff, ↓g_tf, ↓g_ft, ↓g_tnt, ↓g_tnf, ↓g_fnt, ↓g_fnf, ↓mkT_getD]
      try exact rfl
    · intro ck i hck hi
      generalize hq0 : exC _ _ _ _ _ = gg
      by_cases hlt : i < n
      · have hd : decide ((i : Int) < (n : Int)) = true := by simp; omega
        have hg := (hwl.2 i hlt).1
        rw [← hq0]
        clear hq0
        simp (maxSteps := 4000000) only [go_sem, ↓op_move, ↓op_assign, ↓op_pick, ↓op_alloc, ↓op_box, ↓op_build, ↓op_buildSlice, ↓op_load, ↓op_store, ↓op_nilCheck, ↓op_bin, ↓op_un, ↓op_convert, ↓op_makeFunc, ↓op_makeSlice, ↓op_slice, ↓op_fieldAddr, ↓op_field, ↓op_indexAddr, ↓op_index, ↓op_extract, ↓op_lookup, ↓op_mapUpdate, ↓op_makeMap, ↓op_range, ↓op_next, ↓op_call, ↓op_builtin, ↓g_tt, ↓g_ff, ↓g_tf, ↓g_ft, ↓g_tnt, ↓g_tnf, ↓g_fnt, ↓g_fnf, ↓mkT_getD, hd, hg, hp]
        exact ⟨⟨by omega, by omega⟩, ⟨by omega, by omega, row_ok rfl ones7⟩, inK_of (by omega) (by omega), i + 1, hlt, by omega, ⟨rfl, rfl⟩, HpLe.arr1 (updH_same _ _ _) rfl rfl fun j hj => snoc (f := get) rfl hg hj⟩
      · have hd : decide ((i : Int) < (n : Int)) = false := by simp; omega
        obtain rfl : i = n := by omega
        rw [← hq0]
        clear hq0
        simp (maxSteps := 4000000) only [go_sem, ↓op_move, ↓op_assign, ↓op_pick, ↓op_alloc, ↓op_box, ↓op_build, ↓op_buildSlice, ↓op_load, ↓op_store, ↓op_nilCheck, ↓op_bin, ↓op_un, ↓op_convert, ↓op_makeFunc, ↓op_makeSlice, ↓op_slice, ↓op_fieldAddr, ↓op_field, ↓op_indexAddr, ↓op_index, ↓op_extract, ↓op_lookup, ↓op_mapUpdate, ↓op_makeMap, ↓op_range, ↓op_next, ↓op_call, ↓op_builtin, ↓g_tt, ↓g_ff, ↓g_tf, ↓g_ft, ↓g_tnt, ↓g_tnf, ↓g_fnt, ↓g_fnf, ↓mkT_getD, hd, hp, Nat.zero_add, if_true]
        exact VEnt.sl fun i hi => frzRow_sl hwl.pu hi
theorem vArr_ok : Holds Proofs.Tryd.prog G0 6 eavesC := by
  refine Holds.of_exC D6 Proofs.Tryd.func6 rfl foll (by kernel_rfl) (tab [(9, airCopyC), (13, screen2C), (14, arrived2C), (22, walls2C), (23, steps2cC), (iceKey 4, iceC), (iceKey 5, iceC), (iceKey 6, iceC)]) (tab_ok ⟨vAir_ok, tScreen2_ok, aArrived_ok, vWalls_ok, vSteps_ok, ice_holds, ice_holds, ice_holds, trivial⟩) G0_ok fun k0 rl args hpu hpre => ?_
  unfold eavesC at hpre ⊢
  split at hpre
  rotate_left
  · exact hpre.elim
  rename_i nw sw gw nt st gt na sa ga fx fy fz tx ty tz en a b c d e f w
  obtain ⟨⟨rfl, rfl, rfl, hpw⟩, hw, hwl, hwo, hto, hsp⟩ := hpre
  obtain ⟨hiv, htab, hair, hae, hen⟩ := hto
  obtain ⟨hs, hr, hne⟩ := hsp
  have hp1 := hiv.pu
  have hp2 := hair.pu
  have hok := airE_ok hae
  have hb8 := hok.bands
  have hsame := hok.same
  have htc := htab.cnt
  have hac := hok.cnt
  have hwc := hwo.cnt
  have hpath : PathOk a b c d e f := by
    obtain ⟨⟨s1, s2⟩, ⟨s3, s4⟩, s5, s6⟩ := hs
    obtain ⟨⟨r1, r2⟩, ⟨r3, r4⟩, r5, r6⟩ := hr
    exact ⟨⟨by omega, by omega, by omega⟩, ⟨by omega, by omega, by omega⟩, hne⟩
  obtain ⟨hg0, hiv0⟩ := hair.2 0 hac.1
  have hp3 := hiv0.pu
  have hfb := fac_bd htab (sumI (wDepth (wallsG w) a b c d e f) (wallsN w)) (Nat.le_refl nt)
  have hsb := scr_bd (e := en) hen.1 hfb.1 hfb.2
  obtain ⟨L, hL⟩ : ∃ L, scrLo en (scrF (wallsN w) (wallsG w) nt gt a b c d e f) = L := ⟨_, rfl⟩
  obtain ⟨H, hH⟩ : ∃ H, scrHi en (scrF (wallsN w) (wallsG w) nt gt a b c d e f) = H := ⟨_, rfl⟩
  have hsb : 0 ≤ L ∧ L ≤ H ∧ H ≤ en := by rw [← hL, ← hH]; exact hsb
  have q1 : decide (L < 0) = false := decide_eq_false (by omega)
  have q2 : decide (H < L) = false := decide_eq_false (by omega)
  have q3 : decide (en < H) = false := decide_eq_false (by omega)
  have hpuw : Pu w := by
    rcases hw with rfl | ⟨n, get, rfl⟩
    · exact .nils
    · exact hwl.pu
  have hpuw2 : Pu (.sl (wallsN w) 7 (wallsG w)) := hwl.pu
  have hfw : ∀ hp : Heap, frz 5 hp w = w := fun hp => frz_pu hpuw
  simp only [Proofs.Tryd.f6]
  rw [enter_mkT (Nat.le_of_ble_eq_true rfl)]
  simp (maxSteps := 4000000) only [go_sem, ↓op_move, ↓op_assign, ↓op_pick, ↓op_alloc, ↓op_box, ↓op_build, ↓op_buildSlice, ↓op_load, ↓op_store, ↓op_nilCheck, ↓op_bin, ↓op_un, ↓op_convert, ↓op_makeFunc, ↓op_makeSlice, ↓op_slice, ↓op_fieldAddr, ↓op_field, ↓op_indexAddr, ↓op_index, ↓op_extract, ↓op_lookup, ↓op_mapUpdate, ↓op_makeMap, ↓op_range, ↓op_next, ↓op_call, ↓op_builtin, ↓g_tt, ↓g_ff, ↓g_tf, ↓g_ft, ↓g_tnt, ↓g_tnf, ↓g_fnt, ↓g_fnf, ↓mkT_getD, hfw, hp1, hp2, hp3, hpw, hpuw, hpuw2, hg0, hL, hH, q1, q2, q3]
  refine ⟨⟨hw, hwl, by omega⟩, ⟨hiv, by omega⟩, ⟨hwl, hwo, hiv, htab, hs, hr, hen.1, by omega⟩, by omega, ?_⟩
  refine RestT.ents (Ents.nilArr (d := 12) (l := (6, 1000)) 1 (fun _ => [.int .i64 L]) rfl rfl rfl) ?_
  refine RestT.ents (Ents.nilArr (d := 13) (l := (6, 1001)) 1 (fun _ => [.int .i64 H]) rfl rfl rfl) ?_
  simp (maxSteps := 4000000) only [go_sem, ↓op_move, ↓op_assign, ↓op_pick, ↓op_alloc, ↓op_box, ↓op_build, ↓op_buildSlice, ↓op_load, ↓op_store, ↓op_nilCheck, ↓op_bin, ↓op_un, ↓op_convert, ↓op_makeFunc, ↓op_makeSlice, ↓op_slice, ↓op_fieldAddr, ↓op_field, ↓op_indexAddr, ↓op_index, ↓op_extract, ↓op_lookup, ↓op_mapUpdate, ↓op_makeMap, ↓op_range, ↓op_next, ↓op_call, ↓op_builtin, ↓g_tt, ↓g_ff, ↓g_tf, ↓g_ft, ↓g_tnt, ↓g_tnf, ↓g_fnt, ↓g_fnf, ↓mkT_getD]
  refine RestT.loopG (β := Nat) [(12, 13), (61, 73)] (fun i => [(12, .msl (6, 1000) 0 i), (13, .msl (6, 1001) 0 i), (61, .int .i64 i)])
    (fun i => updH (updH (updH (fun _ => none) (3, 10) (.cells [.int .i64 L, .int .i64 H])) (6, 1000) (.arr i 1 (fun _ => [.int .i64 L]))) (6, 1001) (.arr i 1 (fun _ => [.int .i64 H]))) (fun _ i => i ≤ inN ga 0 4) (fun i => inN ga 0 4 - i) 0 (Nat.zero_le _) ?_ ?_ ?_
  · simp (maxSteps := 4000000) only [go_sem, ↓op_move, ↓op_assign, ↓op_pick, ↓op_alloc, ↓op_box, ↓op_build, ↓op_buildSlice, ↓op_load, ↓op_store, ↓op_nilCheck, ↓op_bin, ↓op_un, ↓op_convert, ↓op_makeFunc, ↓op_makeSlice, ↓op_slice, ↓op_fieldAddr, ↓op_field, ↓op_indexAddr, ↓op_index, ↓op_extract, ↓op_lookup, ↓op_mapUpdate, ↓op_makeMap, ↓op_range, ↓op_next, ↓op_call, ↓op_builtin, ↓g_tt, ↓g_ff, ↓g_tf, ↓g_ft, ↓g_tnt, ↓g_tnf, ↓g_fnt, ↓g_fnf, ↓mkT_getD]
    try exact rfl
  · refine HpLe.upd (HpLe.upd (HpLe.upd HpLe.none ⟨_, ?_, ObjLe.refl _⟩) ⟨_, ?_, ObjLe.refl _⟩) ⟨_, ?_, ObjLe.refl _⟩ <;> simp [updH]
  · intro ck i hck hi
    have hk0 : ¬ ck = 0 := by omega
    have hk3 : ¬ ck = 3 := by omega
    generalize hq0 : exC _ _ _ _ _ = gg
    by_cases hlt : i < inN ga 0 4
    · have hd : decide ((i : Int) < (inN ga 0 4 : Int)) = true := by simp; omega
      rw [← hq0]
      clear hq0
      simp (maxSteps := 4000000) only [go_sem, ↓op_move, ↓op_assign, ↓op_pick, ↓op_alloc, ↓op_box, ↓op_build, ↓op_buildSlice, ↓op_load, ↓op_store, ↓op_nilCheck, ↓op_bin, ↓op_un, ↓op_convert, ↓op_makeFunc, ↓op_makeSlice, ↓op_slice, ↓op_fieldAddr, ↓op_field, ↓op_indexAddr, ↓op_index, ↓op_extract, ↓op_lookup, ↓op_mapUpdate, ↓op_makeMap, ↓op_range, ↓op_next, ↓op_call, ↓op_builtin, ↓g_tt, ↓g_ff, ↓g_tf, ↓g_ft, ↓g_tnt, ↓g_tnf, ↓g_fnt, ↓g_fnf, ↓mkT_getD, hd, hk0, hk3]
      refine ⟨⟨by omega, by omega, row_ok rfl ones1⟩, ⟨by omega, by omega, row_ok rfl ones1⟩, inK_of (by omega) (by omega), by omega, i + 1, hlt, by omega, ⟨rfl, rfl, rfl⟩, ?_⟩
      refine HpLe.upd (HpLe.upd (HpLe.upd HpLe.none ⟨_, ?_, ObjLe.refl _⟩) ⟨_, ?_, objLe_arr fun j hj => snoc (f := fun _ => [V.int .i64 L]) rfl rfl hj⟩) ⟨_, ?_, objLe_arr fun j hj => snoc (f := fun _ => [V.int .i64 H]) rfl rfl hj⟩ <;> simp (maxSteps := 4000000) only [go_sem, ↓op_move, ↓op_assign, ↓op_pick, ↓op_alloc, ↓op_box, ↓op_build, ↓op_buildSlice, ↓op_load, ↓op_store, ↓op_nilCheck, ↓op_bin, ↓op_un, ↓op_convert, ↓op_makeFunc, ↓op_makeSlice, ↓op_slice, ↓op_fieldAddr, ↓op_field, ↓op_indexAddr, ↓op_index, ↓op_extract, ↓op_lookup, ↓op_mapUpdate, ↓op_makeMap, ↓op_range, ↓op_next, ↓op_call, ↓op_builtin, ↓g_tt, ↓g_ff, ↓g_tf, ↓g_ft, ↓g_tnt, ↓g_tnf, ↓g_fnt, ↓g_fnf, ↓mkT_getD, hk0, hk3]
    · have hd : decide ((i : Int) < (inN ga 0 4 : Int)) = false := by simp; omega
      rw [← hq0]
      clear hq0
      obtain rfl : i = inN ga 0 4 := by omega
      simp (maxSteps := 4000000) only [go_sem, ↓op_move, ↓op_assign, ↓op_pick, ↓op_alloc, ↓op_box, ↓op_build, ↓op_buildSlice, ↓op_load, ↓op_store, ↓op_nilCheck, ↓op_bin, ↓op_un, ↓op_convert, ↓op_makeFunc, ↓op_makeSlice, ↓op_slice, ↓op_fieldAddr, ↓op_field, ↓op_indexAddr, ↓op_index, ↓op_extract, ↓op_lookup, ↓op_mapUpdate, ↓op_makeMap, ↓op_range, ↓op_next, ↓op_call, ↓op_builtin, ↓g_tt, ↓g_ff, ↓g_tf, ↓g_ft, ↓g_tnt, ↓g_tnf, ↓g_fnt, ↓g_fnf, ↓mkT_getD, hd, hp1, hp2, hp3, hpw, hpuw, hpuw2, hk0, hk3, Nat.zero_add]
      refine ⟨_, Ents.trans (Ents.kill (d := 12) (l := (6, 1000)) (n := inN ga 0 4) rfl rfl ?_) (Ents.kill (d := 13) (l := (6, 1001)) (n := inN ga 0 4) rfl rfl ?_), ?_⟩
      · intro i j v _ hv
        exact (ones1 v (List.mem_of_getElem? hv)).1
      · intro i j v _ hv
        exact (ones1 v (List.mem_of_getElem? hv)).1
      · simp (maxSteps := 4000000) only [go_sem, ↓op_move, ↓op_assign, ↓op_pick, ↓op_alloc, ↓op_box, ↓op_build, ↓op_buildSlice, ↓op_load, ↓op_store, ↓op_nilCheck, ↓op_bin, ↓op_un, ↓op_convert, ↓op_makeFunc, ↓op_makeSlice, ↓op_slice, ↓op_fieldAddr, ↓op_field, ↓op_indexAddr, ↓op_index, ↓op_extract, ↓op_lookup, ↓op_mapUpdate, ↓op_makeMap, ↓op_range, ↓op_next, ↓op_call, ↓op_builtin, ↓g_tt, ↓g_ff, ↓g_tf, ↓g_ft, ↓g_tnt, ↓g_tnf, ↓g_fnt, ↓g_fnf, ↓mkT_getD, hp1, hp2, hp3, hpw, hpuw, hpuw2, hk0, hk3, Nat.zero_add]
        have hcp : IsAir na ga ∧ na ≤ 8 ∧ ∀ (i : Nat), i < na → inN ga i 4 ≤ 8 := ⟨hair, hac.2, fun i hi => by have := hsame i hi; omega⟩
        refine ⟨hcp, ⟨hair, hae, hpath, isInts_fn _ (by omega), fun _ _ => ⟨by omega, by omega⟩⟩, hcp, ⟨hair, hae, hpath, isInts_fn _ (by omega), fun _ _ => ⟨by omega, by omega⟩⟩, ?_⟩
        refine RestT.ents (Ents.nilArr (d := 18) (l := (ck + 1 + 1 + 1 + 1 + 1 + 1, 2000)) 2 (fun k => [.int .i64 (arrLo L (pLo na ga a b c d e f k)), .int .i64 (arrHi H (pHi na ga a b c d e f k))]) rfl (by simp [updH]) rfl) ?_
        simp (maxSteps := 4000000) only [go_sem, ↓op_move, ↓op_assign, ↓op_pick, ↓op_alloc, ↓op_box, ↓op_build, ↓op_buildSlice, ↓op_load, ↓op_store, ↓op_nilCheck, ↓op_bin, ↓op_un, ↓op_convert, ↓op_makeFunc, ↓op_makeSlice, ↓op_slice, ↓op_fieldAddr, ↓op_field, ↓op_indexAddr, ↓op_index, ↓op_extract, ↓op_lookup, ↓op_mapUpdate, ↓op_makeMap, ↓op_range, ↓op_next, ↓op_call, ↓op_builtin, ↓g_tt, ↓g_ff, ↓g_tf, ↓g_ft, ↓g_tnt, ↓g_tnf, ↓g_fnt, ↓g_fnf, ↓mkT_getD]
        refine RestT.loopF (β := Nat) [(18, 19), (118, 135)] (fun i => [(18, .msl (ck + 1 + 1 + 1 + 1 + 1 + 1, 2000) 0 i), (118, .int .i64 i)])
          (fun i => updH (fun _ => none) (ck + 1 + 1 + 1 + 1 + 1 + 1, 2000) (.arr i 2 (fun k => [.int .i64 (arrLo L (pLo na ga a b c d e f k)), .int .i64 (arrHi H (pHi na ga a b c d e f k))]))) (fun i => i ≤ inN ga 0 4) (fun i => inN ga 0 4 - i) 0 (Nat.zero_le _) ?_
          (HpLe.arr1 (updH_same _ _ _) rfl rfl fun i hi => by omega) ?_
        · simp (maxSteps := 4000000) only [go_sem, ↓op_move, ↓op_assign, ↓op_pick, ↓op_alloc, ↓op_box, ↓op_build, ↓op_buildSlice, ↓op_load, ↓op_store, ↓op_nilCheck, ↓op_bin, ↓op_un, ↓op_convert, ↓op_makeFunc, ↓op_makeSlice, ↓op_slice, ↓op_fieldAddr, ↓op_field, ↓op_indexAddr, ↓op_index, ↓op_extract, ↓op_lookup, ↓op_mapUpdate, ↓op_makeMap, ↓op_range, ↓op_next, ↓op_call, ↓op_builtin, ↓g_tt, ↓g_ff, ↓g_tf, ↓g_ft, ↓g_tnt, ↓g_tnf, ↓g_fnt, ↓g_fnf, ↓mkT_getD]
          try exact rfl
        · intro ck2 i hck2 hi
          generalize hq0 : exC _ _ _ _ _ = gg
          by_cases hlt : i < inN ga 0 4
          · have hd : decide ((i : Int) < (inN ga 0 4 : Int)) = true := by simp; omega
            rw [← hq0]
            clear hq0
            simp (maxSteps := 4000000) only [go_sem, ↓op_move, ↓op_assign, ↓op_pick, ↓op_alloc, ↓op_box, ↓op_build, ↓op_buildSlice, ↓op_load, ↓op_store, ↓op_nilCheck, ↓op_bin, ↓op_un, ↓op_convert, ↓op_makeFunc, ↓op_makeSlice, ↓op_slice, ↓op_fieldAddr, ↓op_field, ↓op_indexAddr, ↓op_index, ↓op_extract, ↓op_lookup, ↓op_mapUpdate, ↓op_makeMap, ↓op_range, ↓op_next, ↓op_call, ↓op_builtin, ↓g_tt, ↓g_ff, ↓g_tf, ↓g_ft, ↓g_tnt, ↓g_tnf, ↓g_fnt, ↓g_fnf, ↓mkT_getD, hd, hk0, hk3, hp1, hp2, hp3, hpw, hpuw, hpuw2]
            exact ⟨⟨by omega, by omega⟩, ⟨by omega, by omega⟩, ⟨by omega, by omega, row_ok rfl ones2⟩, inK_of (by omega) (by omega), by omega, i + 1, hlt, by omega, ⟨rfl, rfl⟩, HpLe.arr1 (updH_same _ _ _) rfl rfl fun j hj => snoc (f := fun k => [V.int .i64 (arrLo L (pLo na ga a b c d e f k)), V.int .i64 (arrHi H (pHi na ga a b c d e f k))]) rfl rfl hj⟩
          · have hd : decide ((i : Int) < (inN ga 0 4 : Int)) = false := by simp; omega
            obtain rfl : i = inN ga 0 4 := by omega
            rw [← hq0]
            clear hq0
            simp (maxSteps := 4000000) only [go_sem, ↓op_move, ↓op_assign, ↓op_pick, ↓op_alloc, ↓op_box, ↓op_build, ↓op_buildSlice, ↓op_load, ↓op_store, ↓op_nilCheck, ↓op_bin, ↓op_un, ↓op_convert, ↓op_makeFunc, ↓op_makeSlice, ↓op_slice, ↓op_fieldAddr, ↓op_field, ↓op_indexAddr, ↓op_index, ↓op_extract, ↓op_lookup, ↓op_mapUpdate, ↓op_makeMap, ↓op_range, ↓op_next, ↓op_call, ↓op_builtin, ↓g_tt, ↓g_ff, ↓g_tf, ↓g_ft, ↓g_tnt, ↓g_tnf, ↓g_fnt, ↓g_fnf, ↓mkT_getD, hd, hp1, hp2, hp3, hpw, hpuw, hpuw2, hk0, hk3, Nat.zero_add]
            refine VEnt.of_eq ?_
            have e1 : ∀ k, eavLo (wallsN w) (wallsG w) nt gt na ga a b c d e f en k = arrLo L (pLo na ga a b c d e f k) := fun k => by unfold eavLo; rw [hL]
            have e2 : ∀ k, eavHi (wallsN w) (wallsG w) nt gt na ga a b c d e f en k = arrHi H (pHi na ga a b c d e f k) := fun k => by unfold eavHi; rw [hH]
            simp only [e1, e2]
end Go.Fly.Tryd
