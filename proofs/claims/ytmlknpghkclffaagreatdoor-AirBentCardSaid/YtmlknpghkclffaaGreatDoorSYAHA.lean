/- The law's helpers on the air, and the reference's parts of paths. -/
import Derived.Test.YtmlknpghkclffaaGreatDoorSYAGN
import Derived.Test.YtmlknpghkclffaaGreatDoorSYABG
import Derived.Test.YtmlknpghkclffaaGreatDoorAW
set_option linter.unusedSimpArgs false
set_option linter.unusedVariables false
set_option maxRecDepth 100000
set_option maxHeartbeats 2000000
namespace Go.Fly.Tryz
open Go

theorem lPath_ok : Holds Proofs.Tryz.prog G0 30 toPathRC := by
  refine Holds.of_exC D30 Proofs.Tryz.func30 rfl foll (by kernel_rfl) (tab [(iceKey 1, iceC)]) (tab_ok ⟨ice_holds, trivial⟩) G0_ok fun k0 rl args hpu hpre => ?_
  unfold toPathRC at hpre ⊢
  split at hpre
  rotate_left
  · exact hpre.elim
  simp only [Proofs.Tryz.f30]
  rw [enter_mkT (Nat.le_of_ble_eq_true rfl)]
  simp (maxSteps := 4000000) only [go_sem, ↓op_move, ↓op_assign, ↓op_pick, ↓op_alloc, ↓op_box, ↓op_build, ↓op_buildSlice, ↓op_load, ↓op_store, ↓op_nilCheck, ↓op_bin, ↓op_un, ↓op_convert, ↓op_makeFunc, ↓op_makeSlice, ↓op_slice, ↓op_fieldAddr, ↓op_field, ↓op_indexAddr, ↓op_index, ↓op_extract, ↓op_lookup, ↓op_mapUpdate, ↓op_makeMap, ↓op_range, ↓op_next, ↓op_call, ↓op_builtin, ↓g_tt, ↓g_ff, ↓g_tf, ↓g_ft, ↓g_tnt, ↓g_tnf, ↓g_fnt, ↓g_fnf, ↓mkT_getD]
  exact VEnt.refl _

theorem lList_ok : Holds Proofs.Tryz.prog G0 44 ownListC := by
  refine Holds.of_exC D44 Proofs.Tryz.func44 rfl foll (by kernel_rfl) (tab []) (tab_ok trivial) G0_ok fun k0 rl args hpu hpre => ?_
  unfold ownListC at hpre ⊢
  split at hpre
  rotate_left
  · exact hpre.elim
  rename_i n sz get
  obtain ⟨rfl, hiv, hn⟩ := hpre
  have hp := hiv.pu
  simp only [Proofs.Tryz.f44]
  rw [enter_mkT (Nat.le_of_ble_eq_true rfl)]
  simp (maxSteps := 4000000) only [go_sem, ↓op_move, ↓op_assign, ↓op_pick, ↓op_alloc, ↓op_box, ↓op_build, ↓op_buildSlice, ↓op_load, ↓op_store, ↓op_nilCheck, ↓op_bin, ↓op_un, ↓op_convert, ↓op_makeFunc, ↓op_makeSlice, ↓op_slice, ↓op_fieldAddr, ↓op_field, ↓op_indexAddr, ↓op_index, ↓op_extract, ↓op_lookup, ↓op_mapUpdate, ↓op_makeMap, ↓op_range, ↓op_next, ↓op_call, ↓op_builtin, ↓g_tt, ↓g_ff, ↓g_tf, ↓g_ft, ↓g_tnt, ↓g_tnf, ↓g_fnt, ↓g_fnf, ↓mkT_getD, hp, app0, Nat.zero_add]
  exact ⟨⟨by omega, by omega, ivs_ok hiv⟩, VEnt.refl _⟩

theorem lInts_ok : Holds Proofs.Tryz.prog G0 42 ownIntsC := by
  refine Holds.of_exC D42 Proofs.Tryz.func42 rfl foll (by kernel_rfl) (tab []) (tab_ok trivial) G0_ok fun k0 rl args hpu hpre => ?_
  unfold ownIntsC at hpre ⊢
  split at hpre
  rotate_left
  · exact hpre.elim
  rename_i n sz get
  obtain ⟨rfl, hiv, hn⟩ := hpre
  have hp := hiv.pu
  simp only [Proofs.Tryz.f42]
  rw [enter_mkT (Nat.le_of_ble_eq_true rfl)]
  simp (maxSteps := 4000000) only [go_sem, ↓op_move, ↓op_assign, ↓op_pick, ↓op_alloc, ↓op_box, ↓op_build, ↓op_buildSlice, ↓op_load, ↓op_store, ↓op_nilCheck, ↓op_bin, ↓op_un, ↓op_convert, ↓op_makeFunc, ↓op_makeSlice, ↓op_slice, ↓op_fieldAddr, ↓op_field, ↓op_indexAddr, ↓op_index, ↓op_extract, ↓op_lookup, ↓op_mapUpdate, ↓op_makeMap, ↓op_range, ↓op_next, ↓op_call, ↓op_builtin, ↓g_tt, ↓g_ff, ↓g_tf, ↓g_ft, ↓g_tnt, ↓g_tnf, ↓g_fnt, ↓g_fnf, ↓mkT_getD, hp, app0, Nat.zero_add]
  exact ⟨⟨by omega, by omega, ints_ok hiv⟩, VEnt.refl _⟩

theorem lOwn_ok : Holds Proofs.Tryz.prog G0 19 ownAirC := by
  refine Holds.of_exC D19 Proofs.Tryz.func19 rfl foll (by kernel_rfl) (tab [(44, ownListC)]) (tab_ok ⟨lList_ok, trivial⟩) G0_ok fun k0 rl args hpu hpre => ?_
  unfold ownAirC at hpre ⊢
  split at hpre
  rotate_left
  · exact hpre.elim
  rename_i n sz get
  obtain ⟨rfl, hair, hn8, hb8⟩ := hpre
  have hp := hair.pu
  simp only [Proofs.Tryz.f19]
  rw [enter_mkT (Nat.le_of_ble_eq_true rfl)]
  simp (maxSteps := 4000000) only [go_sem, ↓op_move, ↓op_assign, ↓op_pick, ↓op_alloc, ↓op_box, ↓op_build, ↓op_buildSlice, ↓op_load, ↓op_store, ↓op_nilCheck, ↓op_bin, ↓op_un, ↓op_convert, ↓op_makeFunc, ↓op_makeSlice, ↓op_slice, ↓op_fieldAddr, ↓op_field, ↓op_indexAddr, ↓op_index, ↓op_extract, ↓op_lookup, ↓op_mapUpdate, ↓op_makeMap, ↓op_range, ↓op_next, ↓op_call, ↓op_builtin, ↓g_tt, ↓g_ff, ↓g_tf, ↓g_ft, ↓g_tnt, ↓g_tnf, ↓g_fnt, ↓g_fnf, ↓mkT_getD, hp]
  refine RestT.ents (Ents.nilArr (d := 3) (l := (4, 1000)) 5 (fun _ => []) rfl rfl rfl) ?_
  simp only [go_sem, ↓op_move, ↓op_assign, ↓op_pick, ↓op_alloc, ↓op_box, ↓op_build, ↓op_buildSlice, ↓op_load, ↓op_store, ↓op_nilCheck, ↓op_bin, ↓op_un, ↓op_convert, ↓op_makeFunc, ↓op_makeSlice, ↓op_slice, ↓op_fieldAddr, ↓op_field, ↓op_indexAddr, ↓op_index, ↓op_extract, ↓op_lookup, ↓op_mapUpdate, ↓op_makeMap, ↓op_range, ↓op_next, ↓op_call, ↓op_builtin, ↓g_tt, ↓g_ff, ↓g_tf, ↓g_ft, ↓g_tnt, ↓g_tnf, ↓g_fnt, ↓g_fnf, ↓mkT_getD]
  refine RestT.loopF (β := Nat) [(3, 3), (5, 5), (8, 25)] (fun i => [(3, .msl (4, 1000) 0 i), (8, .int .i64 i)]) (fun i => updH (fun _ => none) (4, 1000) (.arr i 5 get)) (fun i => i ≤ n) (fun i => n - i) 0 (Nat.zero_le _) ?_
    (HpLe.arr1 (updH_same _ _ _) rfl rfl fun i hi => by omega) ?_
  · simp (maxSteps := 4000000) only [go_sem, ↓op_move, ↓op_assign, ↓op_pick, ↓op_alloc, ↓op_box, ↓op_build, ↓op_buildSlice, ↓op_load, ↓op_store, ↓op_nilCheck, ↓op_bin, ↓op_un, ↓op_convert, ↓op_makeFunc, ↓op_makeSlice, ↓op_slice, ↓op_fieldAddr, ↓op_field, ↓op_indexAddr, ↓op_index, ↓op_extract, ↓op_lookup, ↓op_mapUpdate, ↓op_makeMap, ↓op_range, ↓op_next, ↓op_call, ↓op_builtin, ↓g_tt, ↓g_ff, ↓g_tf, ↓g_ft, ↓g_tnt, ↓g_tnf, ↓g_fnt, ↓g_fnf, ↓mkT_getD]
    try exact rfl
  · intro ck i hck hi
    generalize hq0 : exC _ _ _ _ _ = gg
    by_cases hlt : i < n
    · have hd : decide ((i : Int) < (n : Int)) = true := by simp; omega
      obtain ⟨hg, hiv⟩ := hair.2 i hlt
      have hp2 := hiv.pu
      have hbi := hb8 i hlt
      rw [← hq0]
      clear hq0
      simp (maxSteps := 4000000) only [go_sem, ↓op_move, ↓op_assign, ↓op_pick, ↓op_alloc, ↓op_box, ↓op_build, ↓op_buildSlice, ↓op_load, ↓op_store, ↓op_nilCheck, ↓op_bin, ↓op_un, ↓op_convert, ↓op_makeFunc, ↓op_makeSlice, ↓op_slice, ↓op_fieldAddr, ↓op_field, ↓op_indexAddr, ↓op_index, ↓op_extract, ↓op_lookup, ↓op_mapUpdate, ↓op_makeMap, ↓op_range, ↓op_next, ↓op_call, ↓op_builtin, ↓g_tt, ↓g_ff, ↓g_tf, ↓g_ft, ↓g_tnt, ↓g_tnf, ↓g_fnt, ↓g_fnf, ↓mkT_getD, hd, hg, hp, hp2]
      exact ⟨⟨by omega, by omega⟩, ⟨hiv, by omega⟩, ⟨by omega, by omega, row_ok rfl (ones5 hp2)⟩, inK_of (by omega) (by omega), i + 1, hlt, by omega, ⟨rfl, rfl⟩, HpLe.arr1 (updH_same _ _ _) rfl rfl fun j hj => snoc (f := get) rfl hg hj⟩
    · have hd : decide ((i : Int) < (n : Int)) = false := by simp; omega
      obtain rfl : i = n := by omega
      rw [← hq0]
      clear hq0
      simp (maxSteps := 4000000) only [go_sem, ↓op_move, ↓op_assign, ↓op_pick, ↓op_alloc, ↓op_box, ↓op_build, ↓op_buildSlice, ↓op_load, ↓op_store, ↓op_nilCheck, ↓op_bin, ↓op_un, ↓op_convert, ↓op_makeFunc, ↓op_makeSlice, ↓op_slice, ↓op_fieldAddr, ↓op_field, ↓op_indexAddr, ↓op_index, ↓op_extract, ↓op_lookup, ↓op_mapUpdate, ↓op_makeMap, ↓op_range, ↓op_next, ↓op_call, ↓op_builtin, ↓g_tt, ↓g_ff, ↓g_tf, ↓g_ft, ↓g_tnt, ↓g_tnf, ↓g_fnt, ↓g_fnf, ↓mkT_getD, hd, hp, Nat.zero_add]
      exact VEnt.sl fun j hj => frzRow_sl hp hj

theorem lIvs_ok : Holds Proofs.Tryz.prog G0 36 ivsC := by
  refine Holds.of_exC D36 Proofs.Tryz.func36 rfl foll (by kernel_rfl) (tab [(63, sameIvC)]) (tab_ok ⟨rSame_ok, trivial⟩) G0_ok fun k0 rl args hpu hpre => ?_
  unfold ivsC at hpre ⊢
  split at hpre
  rotate_left
  · exact hpre.elim
  rename_i x e bad y
  rcases hpre with ⟨rfl, h0, rfl, hy⟩ | ⟨rfl, rfl, n, a, b, rfl, rfl, ha, hb, he⟩
  · have hd : decide (e = e) = true := decide_eq_true rfl
    have hd2 : decide (e = 0) = false := decide_eq_false h0
    simp only [Proofs.Tryz.f36]
    rw [enter_mkT (Nat.le_of_ble_eq_true rfl)]
    simp (maxSteps := 4000000) only [go_sem, ↓op_move, ↓op_assign, ↓op_pick, ↓op_alloc, ↓op_box, ↓op_build, ↓op_buildSlice, ↓op_load, ↓op_store, ↓op_nilCheck, ↓op_bin, ↓op_un, ↓op_convert, ↓op_makeFunc, ↓op_makeSlice, ↓op_slice, ↓op_fieldAddr, ↓op_field, ↓op_indexAddr, ↓op_index, ↓op_extract, ↓op_lookup, ↓op_mapUpdate, ↓op_makeMap, ↓op_range, ↓op_next, ↓op_call, ↓op_builtin, ↓g_tt, ↓g_ff, ↓g_tf, ↓g_ft, ↓g_tnt, ↓g_tnf, ↓g_fnt, ↓g_fnf, ↓mkT_getD, hd, hd2, hy]
    exact VEnt.refl _
  · have hp1 := ha.pu
    have hp2 := hb.pu
    have hs := sameG_true he
    simp only [Proofs.Tryz.f36]
    rw [enter_mkT (Nat.le_of_ble_eq_true rfl)]
    simp (maxSteps := 4000000) only [go_sem, ↓op_move, ↓op_assign, ↓op_pick, ↓op_alloc, ↓op_box, ↓op_build, ↓op_buildSlice, ↓op_load, ↓op_store, ↓op_nilCheck, ↓op_bin, ↓op_un, ↓op_convert, ↓op_makeFunc, ↓op_makeSlice, ↓op_slice, ↓op_fieldAddr, ↓op_field, ↓op_indexAddr, ↓op_index, ↓op_extract, ↓op_lookup, ↓op_mapUpdate, ↓op_makeMap, ↓op_range, ↓op_next, ↓op_call, ↓op_builtin, ↓g_tt, ↓g_ff, ↓g_tf, ↓g_ft, ↓g_tnt, ↓g_tnf, ↓g_fnt, ↓g_fnf, ↓mkT_getD, hp1, hp2, hs]
    exact ⟨⟨ha, hb⟩, VEnt.refl _⟩

theorem rPlc_ok : Holds Proofs.Tryz.prog G0 100 (pointC 10000 10000) := by
  refine Holds.of_exC D100 Proofs.Tryz.func100 rfl foll (by kernel_rfl) (tab [(22, firstC), (23, withinC), (iceKey 1, iceC)]) (tab_ok ⟨qFirst_ok, qRange_ok, ice_holds, trivial⟩) G0_ok fun k0 rl args hpu hpre => ?_
  unfold pointC at hpre ⊢
  split at hpre
  rotate_left
  · exact hpre.elim
  simp only [Proofs.Tryz.f100]
  rw [enter_mkT (Nat.le_of_ble_eq_true rfl)]
  simp (maxSteps := 4000000) only [go_sem, ↓op_move, ↓op_assign, ↓op_pick, ↓op_alloc, ↓op_box, ↓op_build, ↓op_buildSlice, ↓op_load, ↓op_store, ↓op_nilCheck, ↓op_bin, ↓op_un, ↓op_convert, ↓op_makeFunc, ↓op_makeSlice, ↓op_slice, ↓op_fieldAddr, ↓op_field, ↓op_indexAddr, ↓op_index, ↓op_extract, ↓op_lookup, ↓op_mapUpdate, ↓op_makeMap, ↓op_range, ↓op_next, ↓op_call, ↓op_builtin, ↓g_tt, ↓g_ff, ↓g_tf, ↓g_ft, ↓g_tnt, ↓g_tnf, ↓g_fnt, ↓g_fnf, ↓mkT_getD]
  exact VEnt.refl _

theorem rPth_ok : Holds Proofs.Tryz.prog G0 32 pathC := by
  refine Holds.of_exC D32 Proofs.Tryz.func32 rfl foll (by kernel_rfl) (tab [(22, firstC), (81, whenC), (100, pointC 10000 10000), (iceKey 1, iceC)]) (tab_ok ⟨qFirst_ok, qWhen_ok, rPlc_ok, ice_holds, trivial⟩) G0_ok fun k0 rl args hpu hpre => ?_
  unfold pathC at hpre ⊢
  split at hpre
  rotate_left
  · exact hpre.elim
  simp only [Proofs.Tryz.f32]
  rw [enter_mkT (Nat.le_of_ble_eq_true rfl)]
  simp (maxSteps := 4000000) only [go_sem, ↓op_move, ↓op_assign, ↓op_pick, ↓op_alloc, ↓op_box, ↓op_build, ↓op_buildSlice, ↓op_load, ↓op_store, ↓op_nilCheck, ↓op_bin, ↓op_un, ↓op_convert, ↓op_makeFunc, ↓op_makeSlice, ↓op_slice, ↓op_fieldAddr, ↓op_field, ↓op_indexAddr, ↓op_index, ↓op_extract, ↓op_lookup, ↓op_mapUpdate, ↓op_makeMap, ↓op_range, ↓op_next, ↓op_call, ↓op_builtin, ↓g_tt, ↓g_ff, ↓g_tf, ↓g_ft, ↓g_tnt, ↓g_tnf, ↓g_fnt, ↓g_fnf, ↓mkT_getD]
  exact VEnt.refl _

theorem rDirn_ok : Holds Proofs.Tryz.prog G0 127 dirPC := by
  refine Holds.of_exC D127 Proofs.Tryz.func127 rfl foll (by kernel_rfl) (tab [(iceKey 1, iceC)]) (tab_ok ⟨ice_holds, trivial⟩) G0_ok fun k0 rl args hpu hpre => ?_
  unfold dirPC at hpre ⊢
  split at hpre
  rotate_left
  · exact hpre.elim
  simp only [Proofs.Tryz.f127]
  rw [enter_mkT (Nat.le_of_ble_eq_true rfl)]
  simp (maxSteps := 4000000) only [go_sem, ↓op_move, ↓op_assign, ↓op_pick, ↓op_alloc, ↓op_box, ↓op_build, ↓op_buildSlice, ↓op_load, ↓op_store, ↓op_nilCheck, ↓op_bin, ↓op_un, ↓op_convert, ↓op_makeFunc, ↓op_makeSlice, ↓op_slice, ↓op_fieldAddr, ↓op_field, ↓op_indexAddr, ↓op_index, ↓op_extract, ↓op_lookup, ↓op_mapUpdate, ↓op_makeMap, ↓op_range, ↓op_next, ↓op_call, ↓op_builtin, ↓g_tt, ↓g_ff, ↓g_tf, ↓g_ft, ↓g_tnt, ↓g_tnf, ↓g_fnt, ↓g_fnf, ↓mkT_getD]
  exact ⟨inK_of (by omega) (by omega), inK_of (by omega) (by omega), VEnt.refl _⟩

theorem rSqr_ok : Holds Proofs.Tryz.prog G0 102 sqRC := by
  refine Holds.of_exC D102 Proofs.Tryz.func102 rfl foll (by kernel_rfl) (tab [(127, dirPC), (iceKey 2, iceC)]) (tab_ok ⟨rDirn_ok, ice_holds, trivial⟩) G0_ok fun k0 rl args hpu hpre => ?_
  unfold sqRC at hpre ⊢
  split at hpre
  rotate_left
  · exact hpre.elim
  rename_i a b c d e f h
  obtain ⟨hpath, h1, h2⟩ := hpre
  obtain ⟨⟨p1, p2, p3⟩, ⟨p4, p5, p6⟩, p7⟩ := hpath
  have q1 := sqBd (show -20000 ≤ d - a by omega) (show d - a ≤ 20000 by omega)
  have q2 := sqBd (show -20000 ≤ e - b by omega) (show e - b ≤ 20000 by omega)
  have q3 := sqBd (show -20000 ≤ h by omega) (show h ≤ 20000 by omega)
  simp only [Proofs.Tryz.f102]
  rw [enter_mkT (Nat.le_of_ble_eq_true rfl)]
  simp (maxSteps := 4000000) only [go_sem, ↓op_move, ↓op_assign, ↓op_pick, ↓op_alloc, ↓op_box, ↓op_build, ↓op_buildSlice, ↓op_load, ↓op_store, ↓op_nilCheck, ↓op_bin, ↓op_un, ↓op_convert, ↓op_makeFunc, ↓op_makeSlice, ↓op_slice, ↓op_fieldAddr, ↓op_field, ↓op_indexAddr, ↓op_index, ↓op_extract, ↓op_lookup, ↓op_mapUpdate, ↓op_makeMap, ↓op_range, ↓op_next, ↓op_call, ↓op_builtin, ↓g_tt, ↓g_ff, ↓g_tf, ↓g_ft, ↓g_tnt, ↓g_tnf, ↓g_fnt, ↓g_fnf, ↓mkT_getD]
  exact ⟨⟨by omega, by omega, by omega, by omega⟩, inK_of (by omega) (by omega), inK_of (by omega) (by omega), inK_of (by omega) (by omega), inK_of (by omega) (by omega), inK_of (by omega) (by omega), VEnt.refl _⟩

theorem rBot_ok : Holds Proofs.Tryz.prog G0 92 botC := by
  refine Holds.of_exC D92 Proofs.Tryz.func92 rfl foll (by kernel_rfl) (tab []) (tab_ok trivial) G0_ok fun k0 rl args hpu hpre => ?_
  unfold botC at hpre ⊢
  split at hpre
  rotate_left
  · exact hpre.elim
  rename_i n sz get i
  obtain ⟨rfl, hair, hok, h0, h1⟩ := hpre
  obtain ⟨i, rfl⟩ := Int.eq_ofNat_of_zero_le h0
  have hp := hair.pu
  have hn := hok.cnt
  simp only [Proofs.Tryz.f92]
  rw [enter_mkT (Nat.le_of_ble_eq_true rfl)]
  simp (maxSteps := 4000000) only [go_sem, ↓op_move, ↓op_assign, ↓op_pick, ↓op_alloc, ↓op_box, ↓op_build, ↓op_buildSlice, ↓op_load, ↓op_store, ↓op_nilCheck, ↓op_bin, ↓op_un, ↓op_convert, ↓op_makeFunc, ↓op_makeSlice, ↓op_slice, ↓op_fieldAddr, ↓op_field, ↓op_indexAddr, ↓op_index, ↓op_extract, ↓op_lookup, ↓op_mapUpdate, ↓op_makeMap, ↓op_range, ↓op_next, ↓op_call, ↓op_builtin, ↓g_tt, ↓g_ff, ↓g_tf, ↓g_ft, ↓g_tnt, ↓g_tnf, ↓g_fnt, ↓g_fnf, ↓mkT_getD, hp, Int.toNat_natCast]
  refine RestT.loopF (β := Nat) [(5, 18)] (fun k => [(5, .int .i64 (botE get k)), (6, .int .i64 k)]) (fun _ => fun _ => none) (fun k => k ≤ i) (fun k => i - k) 0 (Nat.zero_le _) ?_ HpLe.none ?_
  · simp (maxSteps := 4000000) only [go_sem, ↓op_move, ↓op_assign, ↓op_pick, ↓op_alloc, ↓op_box, ↓op_build, ↓op_buildSlice, ↓op_load, ↓op_store, ↓op_nilCheck, ↓op_bin, ↓op_un, ↓op_convert, ↓op_makeFunc, ↓op_makeSlice, ↓op_slice, ↓op_fieldAddr, ↓op_field, ↓op_indexAddr, ↓op_index, ↓op_extract, ↓op_lookup, ↓op_mapUpdate, ↓op_makeMap, ↓op_range, ↓op_next, ↓op_call, ↓op_builtin, ↓g_tt, ↓g_ff, ↓g_tf, ↓g_ft, ↓g_tnt, ↓g_tnf, ↓g_fnt, ↓g_fnf, ↓mkT_getD]
    try exact rfl
  · intro ck k hck hk
    generalize hq0 : exC _ _ _ _ _ = gg
    by_cases hlt : k < i
    · have hd : decide ((k : Int) < (i : Int)) = true := by simp; omega
      obtain ⟨hg, hiv⟩ := hair.2 k (by omega)
      have hp2 := hiv.pu
      have hb := bot_bd hok (show k ≤ n by omega)
      have ht := hok.th k (by omega)
      rw [← hq0]
      clear hq0
      simp (maxSteps := 4000000) only [go_sem, ↓op_move, ↓op_assign, ↓op_pick, ↓op_alloc, ↓op_box, ↓op_build, ↓op_buildSlice, ↓op_load, ↓op_store, ↓op_nilCheck, ↓op_bin, ↓op_un, ↓op_convert, ↓op_makeFunc, ↓op_makeSlice, ↓op_slice, ↓op_fieldAddr, ↓op_field, ↓op_indexAddr, ↓op_index, ↓op_extract, ↓op_lookup, ↓op_mapUpdate, ↓op_makeMap, ↓op_range, ↓op_next, ↓op_call, ↓op_builtin, ↓g_tt, ↓g_ff, ↓g_tf, ↓g_ft, ↓g_tnt, ↓g_tnf, ↓g_fnt, ↓g_fnf, ↓mkT_getD, hd, hg, hp, hp2]
      exact ⟨⟨by omega, by omega⟩, inK_of (by omega) (by omega), inK_of (by omega) (by omega), by omega, k + 1, hlt, by omega, ⟨rfl, by rw [Int.natCast_add]; rfl⟩, HpLe.none⟩
    · have hd : decide ((k : Int) < (i : Int)) = false := by simp; omega
      obtain rfl : k = i := by omega
      rw [← hq0]
      clear hq0
      simp (maxSteps := 4000000) only [go_sem, ↓op_move, ↓op_assign, ↓op_pick, ↓op_alloc, ↓op_box, ↓op_build, ↓op_buildSlice, ↓op_load, ↓op_store, ↓op_nilCheck, ↓op_bin, ↓op_un, ↓op_convert, ↓op_makeFunc, ↓op_makeSlice, ↓op_slice, ↓op_fieldAddr, ↓op_field, ↓op_indexAddr, ↓op_index, ↓op_extract, ↓op_lookup, ↓op_mapUpdate, ↓op_makeMap, ↓op_range, ↓op_next, ↓op_call, ↓op_builtin, ↓g_tt, ↓g_ff, ↓g_tf, ↓g_ft, ↓g_tnt, ↓g_tnf, ↓g_fnt, ↓g_fnf, ↓mkT_getD, hd, hp]
      exact VEnt.refl _

theorem rTop_ok : Holds Proofs.Tryz.prog G0 91 topRC := by
  refine Holds.of_exC D91 Proofs.Tryz.func91 rfl foll (by kernel_rfl) (tab [(92, botC)]) (tab_ok ⟨rBot_ok, trivial⟩) G0_ok fun k0 rl args hpu hpre => ?_
  unfold topRC at hpre ⊢
  split at hpre
  rotate_left
  · exact hpre.elim
  rename_i n sz get i
  obtain ⟨rfl, hair, hok, h0, h1⟩ := hpre
  obtain ⟨i, rfl⟩ := Int.eq_ofNat_of_zero_le h0
  have hp := hair.pu
  have hn := hok.cnt
  by_cases hl : (i : Int) = (n : Int) - 1
  · have hd : decide ((i : Int) = (n : Int) - 1) = true := decide_eq_true hl
    simp only [Proofs.Tryz.f91]
    rw [enter_mkT (Nat.le_of_ble_eq_true rfl)]
    simp (maxSteps := 4000000) only [go_sem, ↓op_move, ↓op_assign, ↓op_pick, ↓op_alloc, ↓op_box, ↓op_build, ↓op_buildSlice, ↓op_load, ↓op_store, ↓op_nilCheck, ↓op_bin, ↓op_un, ↓op_convert, ↓op_makeFunc, ↓op_makeSlice, ↓op_slice, ↓op_fieldAddr, ↓op_field, ↓op_indexAddr, ↓op_index, ↓op_extract, ↓op_lookup, ↓op_mapUpdate, ↓op_makeMap, ↓op_range, ↓op_next, ↓op_call, ↓op_builtin, ↓g_tt, ↓g_ff, ↓g_tf, ↓g_ft, ↓g_tnt, ↓g_tnf, ↓g_fnt, ↓g_fnf, ↓mkT_getD, hp, hd, Int.toNat_natCast]
    exact ⟨inK_of (by omega) (by omega), VEnt.of_eq (by unfold topR; rw [if_pos hl])⟩
  · have hd : decide ((i : Int) = (n : Int) - 1) = false := decide_eq_false hl
    have hti : ((i : Int) + 1).toNat = i + 1 := by omega
    simp only [Proofs.Tryz.f91]
    rw [enter_mkT (Nat.le_of_ble_eq_true rfl)]
    simp (maxSteps := 4000000) only [go_sem, ↓op_move, ↓op_assign, ↓op_pick, ↓op_alloc, ↓op_box, ↓op_build, ↓op_buildSlice, ↓op_load, ↓op_store, ↓op_nilCheck, ↓op_bin, ↓op_un, ↓op_convert, ↓op_makeFunc, ↓op_makeSlice, ↓op_slice, ↓op_fieldAddr, ↓op_field, ↓op_indexAddr, ↓op_index, ↓op_extract, ↓op_lookup, ↓op_mapUpdate, ↓op_makeMap, ↓op_range, ↓op_next, ↓op_call, ↓op_builtin, ↓g_tt, ↓g_ff, ↓g_tf, ↓g_ft, ↓g_tnt, ↓g_tnf, ↓g_fnt, ↓g_fnf, ↓mkT_getD, hp, hd, Int.toNat_natCast, hti]
    exact ⟨inK_of (by omega) (by omega), inK_of (by omega) (by omega), ⟨hair, hok, by omega, by omega⟩, VEnt.of_eq (by unfold topR; rw [if_neg hl])⟩

theorem rLat_ok : Holds Proofs.Tryz.prog G0 24 latRC := by
  refine Holds.of_exC D24 Proofs.Tryz.func24 rfl foll (by kernel_rfl) (tab [(91, topRC)]) (tab_ok ⟨rTop_ok, trivial⟩) G0_ok fun k0 rl args hpu hpre => ?_
  unfold latRC at hpre ⊢
  split at hpre
  rotate_left
  · exact hpre.elim
  rename_i n sz get h
  obtain ⟨rfl, hair, hok, h0, h1⟩ := hpre
  have hp := hair.pu
  have hn := hok.cnt
  simp only [Proofs.Tryz.f24]
  rw [enter_mkT (Nat.le_of_ble_eq_true rfl)]
  simp (maxSteps := 4000000) only [go_sem, ↓op_move, ↓op_assign, ↓op_pick, ↓op_alloc, ↓op_box, ↓op_build, ↓op_buildSlice, ↓op_load, ↓op_store, ↓op_nilCheck, ↓op_bin, ↓op_un, ↓op_convert, ↓op_makeFunc, ↓op_makeSlice, ↓op_slice, ↓op_fieldAddr, ↓op_field, ↓op_indexAddr, ↓op_index, ↓op_extract, ↓op_lookup, ↓op_mapUpdate, ↓op_makeMap, ↓op_range, ↓op_next, ↓op_call, ↓op_builtin, ↓g_tt, ↓g_ff, ↓g_tf, ↓g_ft, ↓g_tnt, ↓g_tnf, ↓g_fnt, ↓g_fnf, ↓mkT_getD, hp]
  refine RestT.loopF (β := Nat) [(4, 17)] (fun k => [(5, .int .i64 k)]) (fun _ => fun _ => none) (fun k => k ≤ n ∧ ∀ j, j < k → ¬ h < topR n get j) (fun k => n - k) 0 ⟨Nat.zero_le _, fun j hj => absurd hj (Nat.not_lt_zero _)⟩ ?_ HpLe.none ?_
  · simp (maxSteps := 4000000) only [go_sem, ↓op_move, ↓op_assign, ↓op_pick, ↓op_alloc, ↓op_box, ↓op_build, ↓op_buildSlice, ↓op_load, ↓op_store, ↓op_nilCheck, ↓op_bin, ↓op_un, ↓op_convert, ↓op_makeFunc, ↓op_makeSlice, ↓op_slice, ↓op_fieldAddr, ↓op_field, ↓op_indexAddr, ↓op_index, ↓op_extract, ↓op_lookup, ↓op_mapUpdate, ↓op_makeMap, ↓op_range, ↓op_next, ↓op_call, ↓op_builtin, ↓g_tt, ↓g_ff, ↓g_tf, ↓g_ft, ↓g_tnt, ↓g_tnf, ↓g_fnt, ↓g_fnf, ↓mkT_getD]
    try exact rfl
  · intro ck k hck hI
    obtain ⟨hk, hno⟩ := hI
    generalize hq0 : exC _ _ _ _ _ = gg
    by_cases hlt : k < n
    · have hd : decide ((k : Int) < (n : Int)) = true := by simp; omega
      by_cases hh : h < topR n get k
      · have hd2 : decide (h < topR n get k) = true := decide_eq_true hh
        rw [← hq0]
        clear hq0
        simp (maxSteps := 4000000) only [go_sem, ↓op_move, ↓op_assign, ↓op_pick, ↓op_alloc, ↓op_box, ↓op_build, ↓op_buildSlice, ↓op_load, ↓op_store, ↓op_nilCheck, ↓op_bin, ↓op_un, ↓op_convert, ↓op_makeFunc, ↓op_makeSlice, ↓op_slice, ↓op_fieldAddr, ↓op_field, ↓op_indexAddr, ↓op_index, ↓op_extract, ↓op_lookup, ↓op_mapUpdate, ↓op_makeMap, ↓op_range, ↓op_next, ↓op_call, ↓op_builtin, ↓g_tt, ↓g_ff, ↓g_tf, ↓g_ft, ↓g_tnt, ↓g_tnf, ↓g_fnt, ↓g_fnf, ↓mkT_getD, hd, hp, hd2, Int.toNat_natCast]
        refine ⟨⟨hair, hok, by omega, by omega⟩, VEnt.of_eq ?_⟩
        rw [atE_eq hlt ((topR_lt hok hlt h1).1 hh) fun j hj q => hno j hj ((topR_lt hok (by omega) h1).2 q)]
      · have hd2 : decide (h < topR n get k) = false := decide_eq_false hh
        rw [← hq0]
        clear hq0
        simp (maxSteps := 4000000) only [go_sem, ↓op_move, ↓op_assign, ↓op_pick, ↓op_alloc, ↓op_box, ↓op_build, ↓op_buildSlice, ↓op_load, ↓op_store, ↓op_nilCheck, ↓op_bin, ↓op_un, ↓op_convert, ↓op_makeFunc, ↓op_makeSlice, ↓op_slice, ↓op_fieldAddr, ↓op_field, ↓op_indexAddr, ↓op_index, ↓op_extract, ↓op_lookup, ↓op_mapUpdate, ↓op_makeMap, ↓op_range, ↓op_next, ↓op_call, ↓op_builtin, ↓g_tt, ↓g_ff, ↓g_tf, ↓g_ft, ↓g_tnt, ↓g_tnf, ↓g_fnt, ↓g_fnf, ↓mkT_getD, hd, hp, hd2, Int.toNat_natCast]
        refine ⟨⟨hair, hok, by omega, by omega⟩, inK_of (by omega) (by omega), k + 1, ⟨hlt, fun j hj => ?_⟩, by omega, by rw [Int.natCast_add]; rfl, HpLe.none⟩
        by_cases e : j = k
        · subst e; exact hh
        · exact hno j (by omega)
    · exfalso
      have ht := topR_E hok (show n - 1 < n by omega)
      have := hno (n - 1) (by omega)
      unfold topR at this
      rw [if_pos (by omega)] at this
      omega

theorem rWin_ok : Holds Proofs.Tryz.prog G0 103 winC := by
  refine Holds.of_exC D103 Proofs.Tryz.func103 rfl foll (by kernel_rfl) (tab [(91, topRC), (92, botC)]) (tab_ok ⟨rTop_ok, rBot_ok, trivial⟩) G0_ok fun k0 rl args hpu hpre => ?_
  unfold winC at hpre ⊢
  split at hpre
  rotate_left
  · exact hpre.elim
  rename_i n sz get i h
  obtain ⟨rfl, hair, hok, ⟨h0, h1⟩, h2, h3⟩ := hpre
  obtain ⟨i, rfl⟩ := Int.eq_ofNat_of_zero_le h0
  have hp := hair.pu
  have hn := hok.cnt
  have ht := topR_E hok (show i < n by omega)
  have hb := bot_bd hok (show i ≤ n by omega)
  simp only [Proofs.Tryz.f103]
  rw [enter_mkT (Nat.le_of_ble_eq_true rfl)]
  simp (maxSteps := 4000000) only [go_sem, ↓op_move, ↓op_assign, ↓op_pick, ↓op_alloc, ↓op_box, ↓op_build, ↓op_buildSlice, ↓op_load, ↓op_store, ↓op_nilCheck, ↓op_bin, ↓op_un, ↓op_convert, ↓op_makeFunc, ↓op_makeSlice, ↓op_slice, ↓op_fieldAddr, ↓op_field, ↓op_indexAddr, ↓op_index, ↓op_extract, ↓op_lookup, ↓op_mapUpdate, ↓op_makeMap, ↓op_range, ↓op_next, ↓op_call, ↓op_builtin, ↓g_tt, ↓g_ff, ↓g_tf, ↓g_ft, ↓g_tnt, ↓g_tnf, ↓g_fnt, ↓g_fnf, ↓mkT_getD, hp, Int.toNat_natCast]
  exact ⟨⟨hair, hok, by omega, by omega⟩, ⟨hair, hok, by omega, by omega⟩, inK_of (by omega) (by omega), VEnt.refl _⟩

theorem rRoots_ok : Holds Proofs.Tryz.prog G0 101 rootsRC := by
  refine Holds.of_exC D101 Proofs.Tryz.func101 rfl foll (by kernel_rfl) (tab []) (tab_ok trivial) G0_ok fun k0 rl args hpu hpre => ?_
  unfold rootsRC at hpre ⊢
  split at hpre
  rotate_left
  · exact hpre.elim
  rename_i sq f d
  obtain ⟨hsq, hf, hd, hfd⟩ := hpre
  have hdd : 0 < d * d := Int.mul_pos (by omega) (by omega)
  have hff0 : 0 ≤ f * f := Int.mul_nonneg hf.1 hf.1
  have hff : f * f ≤ 20000 * 20000 := Int.mul_le_mul hf.2 hf.2 hf.1 (by omega)
  have hsf0 : 0 ≤ sq * f := Int.mul_nonneg hsq.1 hf.1
  have hsf : sq * f ≤ 1200000000 * 20000 := Int.mul_le_mul hsq.2 hf.2 hf.1 (by omega)
  have hs : 0 ≤ sq * f * f := Int.mul_nonneg hsf0 hf.1
  have hsb : sq * f * f ≤ 1200000000 * 20000 * 20000 := Int.mul_le_mul hsf hf.2 hf.1 (by omega)
  have hr := root_lt hsq hf.1 hfd hd.1
  have hup := rootE_sq hs hdd
  obtain ⟨r, hrr⟩ := Int.eq_ofNat_of_zero_le (rootE_nonneg (sq * f * f) (d * d))
  unfold rootUp
  rw [hrr] at hr hup ⊢
  have hle : ∀ m : Nat, (m : Int) * d * ((m : Int) * d) ≤ sq * f * f ↔ m ≤ r := fun m => by
    have h1 := le_root hs hdd (show (0 : Int) ≤ m by omega)
    rw [hrr] at h1
    rw [show (m : Int) * d * ((m : Int) * d) = (m : Int) * m * (d * d) by ac_rfl]
    omega
  have hrd : (r : Int) * d ≤ 2000000000 := by
    have h1 := (hle r).2 (Nat.le_refl r)
    rcases Int.lt_or_le 2000000000 ((r : Int) * d) with q | q
    · exfalso
      have : 2000000001 * 2000000001 ≤ (r : Int) * d * ((r : Int) * d) := Int.mul_le_mul (by omega) (by omega) (by omega) (by omega)
      omega
    · exact q
  have hrd0 : 0 ≤ (r : Int) * d := Int.mul_nonneg (by omega) (by omega)
  generalize hall : sq * f * f = all at *
  simp only [Proofs.Tryz.f101]
  rw [enter_mkT (Nat.le_of_ble_eq_true rfl)]
  simp (maxSteps := 4000000) only [go_sem, ↓op_move, ↓op_assign, ↓op_pick, ↓op_alloc, ↓op_box, ↓op_build, ↓op_buildSlice, ↓op_load, ↓op_store, ↓op_nilCheck, ↓op_bin, ↓op_un, ↓op_convert, ↓op_makeFunc, ↓op_makeSlice, ↓op_slice, ↓op_fieldAddr, ↓op_field, ↓op_indexAddr, ↓op_index, ↓op_extract, ↓op_lookup, ↓op_mapUpdate, ↓op_makeMap, ↓op_range, ↓op_next, ↓op_call, ↓op_builtin, ↓g_tt, ↓g_ff, ↓g_tf, ↓g_ft, ↓g_tnt, ↓g_tnf, ↓g_fnt, ↓g_fnf, ↓mkT_getD, hall]
  refine ⟨inK_of (by omega) (by omega), inK_of (by omega) (by omega), ?_⟩
  refine RestT.loopF (β := Nat × Nat) [(8, 9), (15, 42)] (fun b => [(8, .int .i64 b.1), (9, .int .i64 ((2 ^ b.2 / 2 : Nat) : Int))]) (fun _ => _) (fun b => b.2 ≤ 17 ∧ b.1 ≤ r ∧ r < b.1 + 2 ^ b.2) (fun b => b.2) (0, 17) ⟨Nat.le_refl _, Nat.zero_le _, by show r < 0 + 2 ^ 17; omega⟩ ?_ (HpLe.refl _) ?_
  · simp (maxSteps := 4000000) only [go_sem, ↓op_move, ↓op_assign, ↓op_pick, ↓op_alloc, ↓op_box, ↓op_build, ↓op_buildSlice, ↓op_load, ↓op_store, ↓op_nilCheck, ↓op_bin, ↓op_un, ↓op_convert, ↓op_makeFunc, ↓op_makeSlice, ↓op_slice, ↓op_fieldAddr, ↓op_field, ↓op_indexAddr, ↓op_index, ↓op_extract, ↓op_lookup, ↓op_mapUpdate, ↓op_makeMap, ↓op_range, ↓op_next, ↓op_call, ↓op_builtin, ↓g_tt, ↓g_ff, ↓g_tf, ↓g_ft, ↓g_tnt, ↓g_tnf, ↓g_fnt, ↓g_fnf, ↓mkT_getD]
    first | exact rfl | exact ⟨rfl, rfl⟩
  · intro ck b hck hI
    obtain ⟨m, k⟩ := b
    obtain ⟨hk, hm, hr2⟩ := hI
    have hk : k ≤ 17 := hk
    have hm : m ≤ r := hm
    have hr2 : r < m + 2 ^ k := hr2
    have hk0 : ¬ ck = 2 := by omega
    have hk1 : ¬ ck = 1 := by omega
    generalize hq0 : exC _ _ _ _ _ = gg
    cases k with
    | zero =>
      obtain rfl : m = r := by rw [Nat.pow_zero] at hr2; omega
      have e0 : (((2 ^ 0 / 2 : Nat)) : Int) = 0 := rfl
      have hd1 : decide ((1 : Int) ≤ 0) = false := rfl
      rw [← hq0]
      clear hq0
      by_cases he : (m : Int) * d * ((m : Int) * d) = all
      · have hd2 : decide ((m : Int) * d * ((m : Int) * d) = all) = true := decide_eq_true he
        simp (maxSteps := 4000000) only [go_sem, ↓op_move, ↓op_assign, ↓op_pick, ↓op_alloc, ↓op_box, ↓op_build, ↓op_buildSlice, ↓op_load, ↓op_store, ↓op_nilCheck, ↓op_bin, ↓op_un, ↓op_convert, ↓op_makeFunc, ↓op_makeSlice, ↓op_slice, ↓op_fieldAddr, ↓op_field, ↓op_indexAddr, ↓op_index, ↓op_extract, ↓op_lookup, ↓op_mapUpdate, ↓op_makeMap, ↓op_range, ↓op_next, ↓op_call, ↓op_builtin, ↓g_tt, ↓g_ff, ↓g_tf, ↓g_ft, ↓g_tnt, ↓g_tnf, ↓g_fnt, ↓g_fnf, ↓mkT_getD, e0, hd1, hd2, hk0, hk1]
        have h1 := (hle m).2 (Nat.le_refl m)
        have hmd : 0 ≤ (m : Int) * d * ((m : Int) * d) := Int.mul_nonneg hrd0 hrd0
        rw [if_neg (by rw [show (m : Int) * m * (d * d) = (m : Int) * d * ((m : Int) * d) by ac_rfl]; omega)]
        exact ⟨inK_of (by omega) (by omega), inK_of (by omega) (by omega), inK_of (by omega) (by omega), VEnt.refl _⟩
      · have hd2 : decide ((m : Int) * d * ((m : Int) * d) = all) = false := decide_eq_false he
        simp (maxSteps := 4000000) only [go_sem, ↓op_move, ↓op_assign, ↓op_pick, ↓op_alloc, ↓op_box, ↓op_build, ↓op_buildSlice, ↓op_load, ↓op_store, ↓op_nilCheck, ↓op_bin, ↓op_un, ↓op_convert, ↓op_makeFunc, ↓op_makeSlice, ↓op_slice, ↓op_fieldAddr, ↓op_field, ↓op_indexAddr, ↓op_index, ↓op_extract, ↓op_lookup, ↓op_mapUpdate, ↓op_makeMap, ↓op_range, ↓op_next, ↓op_call, ↓op_builtin, ↓g_tt, ↓g_ff, ↓g_tf, ↓g_ft, ↓g_tnt, ↓g_tnf, ↓g_fnt, ↓g_fnf, ↓mkT_getD, e0, hd1, hd2, hk0, hk1]
        have h1 := (hle m).2 (Nat.le_refl m)
        have hmd : 0 ≤ (m : Int) * d * ((m : Int) * d) := Int.mul_nonneg hrd0 hrd0
        rw [if_pos (by rw [show (m : Int) * m * (d * d) = (m : Int) * d * ((m : Int) * d) by ac_rfl]; omega)]
        exact ⟨inK_of (by omega) (by omega), inK_of (by omega) (by omega), inK_of (by omega) (by omega), inK_of (by omega) (by omega), VEnt.refl _⟩
    | succ k =>
      have hp1 : 2 ^ k ≤ 2 ^ 16 := Nat.pow_le_pow_right (by decide) (by omega)
      have hp0 : 0 < 2 ^ k := Nat.two_pow_pos k
      have e0 : (((2 ^ (k + 1) / 2 : Nat)) : Int) = ((2 ^ k : Nat) : Int) := by rw [Nat.pow_succ, Nat.mul_div_cancel _ (by decide)]
      have e1 : 2 ^ (k + 1) = 2 ^ k + 2 ^ k := by rw [Nat.pow_succ]; omega
      rw [e1] at hr2
      have hp1 : 2 ^ k ≤ 65536 := hp1
      have hinv : ∀ m' : Nat, m' ≤ r → r < m' + 2 ^ k → k ≤ 17 ∧ m' ≤ r ∧ r < m' + 2 ^ k := fun m' h1 h2 => ⟨by omega, h1, h2⟩
      have e2 : (((2 ^ k : Nat) : Int).tdiv 2) = ((2 ^ k / 2 : Nat) : Int) := by
        rw [Int.tdiv_eq_ediv_of_nonneg (by omega)]; exact (Int.natCast_ediv _ _).symm
      generalize hP : (2 ^ k : Nat) = p at *
      have hd1 : decide ((1 : Int) ≤ (p : Int)) = true := decide_eq_true (by omega)
      have hmp0 : 0 ≤ ((m : Int) + p) * d := Int.mul_nonneg (by omega) (by omega)
      have hmp : ((m : Int) + p) * d ≤ 101000 * 2000000 := Int.mul_le_mul (by omega) hd.2 (by omega) (by omega)
      have hle2 := hle (m + p)
      rw [Int.natCast_add] at hle2
      by_cases hc1 : ((m : Int) + p) * d ≤ 2000000000
      · have hd2 : decide (((m : Int) + p) * d ≤ 2000000000) = true := decide_eq_true hc1
        have hsq0 : 0 ≤ ((m : Int) + p) * d * (((m : Int) + p) * d) := Int.mul_nonneg hmp0 hmp0
        have hsq1 : ((m : Int) + p) * d * (((m : Int) + p) * d) ≤ 2000000000 * 2000000000 := Int.mul_le_mul hc1 hc1 hmp0 (by omega)
        by_cases hc2 : m + p ≤ r
        · have hd3 : decide (((m : Int) + p) * d * (((m : Int) + p) * d) ≤ all) = true := decide_eq_true (hle2.2 hc2)
          rw [← hq0]
          clear hq0
          simp (maxSteps := 4000000) only [go_sem, ↓op_move, ↓op_assign, ↓op_pick, ↓op_alloc, ↓op_box, ↓op_build, ↓op_buildSlice, ↓op_load, ↓op_store, ↓op_nilCheck, ↓op_bin, ↓op_un, ↓op_convert, ↓op_makeFunc, ↓op_makeSlice, ↓op_slice, ↓op_fieldAddr, ↓op_field, ↓op_indexAddr, ↓op_index, ↓op_extract, ↓op_lookup, ↓op_mapUpdate, ↓op_makeMap, ↓op_range, ↓op_next, ↓op_call, ↓op_builtin, ↓g_tt, ↓g_ff, ↓g_tf, ↓g_ft, ↓g_tnt, ↓g_tnf, ↓g_fnt, ↓g_fnf, ↓mkT_getD, e0, e2, hd1, hd2, hd3, hk0, hk1]
          exact ⟨inK_of (by omega) (by omega), inK_of (by omega) (by omega), inK_of (by omega) (by omega), inK_of (by omega) (by omega), inK_of (by omega) (by omega), inK_of (by omega) (by omega), inK_of (by omega) (by omega), inK_of (by omega) (by omega), inK_of (by omega) (by omega), by omega, (m + p, k), ⟨by show k ≤ 17; omega, hc2, by show r < m + p + 2 ^ k; omega⟩, Nat.lt_succ_self k, ⟨by rw [Int.natCast_add], by show V.int _ _ = V.int _ ((2 ^ k / 2 : Nat) : Int); rw [hP]⟩, HpLe.refl _⟩
        · have hd3 : decide (((m : Int) + p) * d * (((m : Int) + p) * d) ≤ all) = false := decide_eq_false fun q => hc2 (hle2.1 q)
          rw [← hq0]
          clear hq0
          simp (maxSteps := 4000000) only [go_sem, ↓op_move, ↓op_assign, ↓op_pick, ↓op_alloc, ↓op_box, ↓op_build, ↓op_buildSlice, ↓op_load, ↓op_store, ↓op_nilCheck, ↓op_bin, ↓op_un, ↓op_convert, ↓op_makeFunc, ↓op_makeSlice, ↓op_slice, ↓op_fieldAddr, ↓op_field, ↓op_indexAddr, ↓op_index, ↓op_extract, ↓op_lookup, ↓op_mapUpdate, ↓op_makeMap, ↓op_range, ↓op_next, ↓op_call, ↓op_builtin, ↓g_tt, ↓g_ff, ↓g_tf, ↓g_ft, ↓g_tnt, ↓g_tnf, ↓g_fnt, ↓g_fnf, ↓mkT_getD, e0, e2, hd1, hd2, hd3, hk0, hk1]
          exact ⟨inK_of (by omega) (by omega), inK_of (by omega) (by omega), inK_of (by omega) (by omega), inK_of (by omega) (by omega), inK_of (by omega) (by omega), inK_of (by omega) (by omega), inK_of (by omega) (by omega), inK_of (by omega) (by omega), by omega, (m, k), ⟨by show k ≤ 17; omega, hm, by show r < m + 2 ^ k; omega⟩, Nat.lt_succ_self k, ⟨rfl, by show V.int _ _ = V.int _ ((2 ^ k / 2 : Nat) : Int); rw [hP]⟩, HpLe.refl _⟩
      · have hd2 : decide (((m : Int) + p) * d ≤ 2000000000) = false := decide_eq_false hc1
        rw [← hq0]
        clear hq0
        simp (maxSteps := 4000000) only [go_sem, ↓op_move, ↓op_assign, ↓op_pick, ↓op_alloc, ↓op_box, ↓op_build, ↓op_buildSlice, ↓op_load, ↓op_store, ↓op_nilCheck, ↓op_bin, ↓op_un, ↓op_convert, ↓op_makeFunc, ↓op_makeSlice, ↓op_slice, ↓op_fieldAddr, ↓op_field, ↓op_indexAddr, ↓op_index, ↓op_extract, ↓op_lookup, ↓op_mapUpdate, ↓op_makeMap, ↓op_range, ↓op_next, ↓op_call, ↓op_builtin, ↓g_tt, ↓g_ff, ↓g_tf, ↓g_ft, ↓g_tnt, ↓g_tnf, ↓g_fnt, ↓g_fnf, ↓mkT_getD, e0, e2, hd1, hd2, hk0, hk1]
        have hc3 : ¬ m + p ≤ r := fun q => hc1 (by
          have := Int.mul_le_mul_of_nonneg_right (show (m : Int) + p ≤ r by omega) (show 0 ≤ d by omega)
          omega)
        exact ⟨inK_of (by omega) (by omega), inK_of (by omega) (by omega), inK_of (by omega) (by omega), by omega, (m, k), ⟨by show k ≤ 17; omega, hm, by show r < m + 2 ^ k; omega⟩, Nat.lt_succ_self k, ⟨rfl, by show V.int _ _ = V.int _ ((2 ^ k / 2 : Nat) : Int); rw [hP]⟩, HpLe.refl _⟩

theorem rSteps_ok : Holds Proofs.Tryz.prog G0 34 stepsRC := by
  refine Holds.of_exC D34 Proofs.Tryz.func34 rfl foll (by kernel_rfl) (tab [(24, latRC), (101, rootsRC), (102, sqRC), (103, winC), (iceKey 3, iceC)]) (tab_ok ⟨rLat_ok, rRoots_ok, rSqr_ok, rWin_ok, ice_holds, trivial⟩) G0_ok fun k0 rl args hpu hpre => ?_
  unfold stepsRC at hpre ⊢
  split at hpre
  rotate_left
  · exact hpre.elim
  rename_i n sz get a b c d e f
  obtain ⟨rfl, hair, hok, hpath⟩ := hpre
  have hp := hair.pu
  have hn := hok.cnt
  have hsq := sqE_bd hpath
  have hpath' := hpath
  obtain ⟨⟨p1, p2, p3⟩, ⟨p4, p5, p6⟩, p7⟩ := hpath'
  simp only [Proofs.Tryz.f34]
  rw [enter_mkT (Nat.le_of_ble_eq_true rfl)]
  simp (maxSteps := 4000000) only [go_sem, ↓op_move, ↓op_assign, ↓op_pick, ↓op_alloc, ↓op_box, ↓op_build, ↓op_buildSlice, ↓op_load, ↓op_store, ↓op_nilCheck, ↓op_bin, ↓op_un, ↓op_convert, ↓op_makeFunc, ↓op_makeSlice, ↓op_slice, ↓op_fieldAddr, ↓op_field, ↓op_indexAddr, ↓op_index, ↓op_extract, ↓op_lookup, ↓op_mapUpdate, ↓op_makeMap, ↓op_range, ↓op_next, ↓op_call, ↓op_builtin, ↓g_tt, ↓g_ff, ↓g_tf, ↓g_ft, ↓g_tnt, ↓g_tnf, ↓g_fnt, ↓g_fnf, ↓mkT_getD, hp]
  refine RestT.ents (Ents.nilArr (d := 7) (l := (5, 1000)) 2 (fun _ => []) rfl rfl rfl) ?_
  simp (maxSteps := 4000000) only [go_sem, ↓op_move, ↓op_assign, ↓op_pick, ↓op_alloc, ↓op_box, ↓op_build, ↓op_buildSlice, ↓op_load, ↓op_store, ↓op_nilCheck, ↓op_bin, ↓op_un, ↓op_convert, ↓op_makeFunc, ↓op_makeSlice, ↓op_slice, ↓op_fieldAddr, ↓op_field, ↓op_indexAddr, ↓op_index, ↓op_extract, ↓op_lookup, ↓op_mapUpdate, ↓op_makeMap, ↓op_range, ↓op_next, ↓op_call, ↓op_builtin, ↓g_tt, ↓g_ff, ↓g_tf, ↓g_ft, ↓g_tnt, ↓g_tnf, ↓g_fnt, ↓g_fnf, ↓mkT_getD]
  refine RestT.loopF (β := Nat) [(7, 10), (25, 61)] (fun i => [(7, .msl (5, 1000) 0 i), (8, .int .i64 i)]) (fun i => updH (fun _ => none) (5, 1000) (.arr i 2 (fun i => [.int .i64 (stLo n get (sqE a b c d e f) (min c f) (max c f) 0 0 c i), .int .i64 (stHi n get (sqE a b c d e f) (min c f) (max c f) 0 0 c i)]))) (fun i => i ≤ n) (fun i => n - i) 0 (Nat.zero_le _) ?_
    (HpLe.arr1 (updH_same _ _ _) rfl rfl fun i hi => by omega) ?_
  · simp (maxSteps := 4000000) only [go_sem, ↓op_move, ↓op_assign, ↓op_pick, ↓op_alloc, ↓op_box, ↓op_build, ↓op_buildSlice, ↓op_load, ↓op_store, ↓op_nilCheck, ↓op_bin, ↓op_un, ↓op_convert, ↓op_makeFunc, ↓op_makeSlice, ↓op_slice, ↓op_fieldAddr, ↓op_field, ↓op_indexAddr, ↓op_index, ↓op_extract, ↓op_lookup, ↓op_mapUpdate, ↓op_makeMap, ↓op_range, ↓op_next, ↓op_call, ↓op_builtin, ↓g_tt, ↓g_ff, ↓g_tf, ↓g_ft, ↓g_tnt, ↓g_tnf, ↓g_fnt, ↓g_fnf, ↓mkT_getD]
    try exact rfl
  · intro ck i hck hi
    generalize hq0 : exC _ _ _ _ _ = gg
    by_cases hlt : i < n
    · have hd : decide ((i : Int) < (n : Int)) = true := by simp; omega
      have hpt := winR_part hok hlt (lo := min c f) (hi' := max c f) (by omega) (by omega) (by omega)
      have hti : ((i : Int)).toNat = i := Int.toNat_natCast i
      have hS : (d - a) * (d - a) + (e - b) * (e - b) + (max c f - min c f) * (max c f - min c f) = sqE a b c d e f := by rw [mm_sq]; rfl
      have hob := over_bd (b := botE get i) (t := topE n get i) (show min c f ≤ max c f by omega)
      rw [← hpt] at hob
      by_cases hz : max c f - min c f = 0
      · have hz2 : decide (max c f - min c f = 0) = true := decide_eq_true hz
        by_cases hat : atE n get (min c f) = i
        · have ha2 : decide (atE n get (min c f) = (i : Int)) = true := decide_eq_true hat
          rw [← hq0]
          clear hq0
          simp (maxSteps := 4000000) only [go_sem, ↓op_move, ↓op_assign, ↓op_pick, ↓op_alloc, ↓op_box, ↓op_build, ↓op_buildSlice, ↓op_load, ↓op_store, ↓op_nilCheck, ↓op_bin, ↓op_un, ↓op_convert, ↓op_makeFunc, ↓op_makeSlice, ↓op_slice, ↓op_fieldAddr, ↓op_field, ↓op_indexAddr, ↓op_index, ↓op_extract, ↓op_lookup, ↓op_mapUpdate, ↓op_makeMap, ↓op_range, ↓op_next, ↓op_call, ↓op_builtin, ↓g_tt, ↓g_ff, ↓g_tf, ↓g_ft, ↓g_tnt, ↓g_tnf, ↓g_fnt, ↓g_fnf, ↓mkT_getD, hd, hp, hti, hS, hz2, ha2]
          have e1 := st_flat (n := n) (get := get) (i := i) hz
          rw [if_pos hat.symm] at e1
          have hrow : [V.int .i64 (stLo n get (sqE a b c d e f) (min c f) (max c f) 0 0 c i), V.int .i64 (stHi n get (sqE a b c d e f) (min c f) (max c f) 0 0 c i)] = [V.int .i64 (rootE (sqE a b c d e f * 1 * 1) 10000), V.int .i64 (rootUp (sqE a b c d e f * 1 * 1) 10000)] := by
            unfold stLo stHi
            rw [e1.1, e1.2]
            rfl
          exact ⟨⟨hair, hok, ⟨by omega, by omega⟩, by omega, by omega⟩, ⟨hair, hok, ⟨by omega, by omega⟩, by omega, by omega⟩, inK_of (by omega) (by omega), inK_of (by omega) (by omega), ⟨hair, hok, by omega, by omega⟩, inK_of (by omega) (by omega), ⟨hpath, by omega, by omega⟩, inK_of (by decide) (by decide), ⟨hsq.1, by omega⟩, ⟨by omega, by omega, row_ok rfl ones2⟩, inK_of (by omega) (by omega), i + 1, hlt, by omega, ⟨rfl, by rw [Int.natCast_add]; rfl⟩, HpLe.arr1 (updH_same _ _ _) rfl rfl fun j hj => snoc (f := fun i => [V.int .i64 (stLo n get (sqE a b c d e f) (min c f) (max c f) 0 0 c i), V.int .i64 (stHi n get (sqE a b c d e f) (min c f) (max c f) 0 0 c i)]) rfl hrow hj⟩
        · have ha2 : decide (atE n get (min c f) = (i : Int)) = false := decide_eq_false hat
          rw [← hq0]
          clear hq0
          simp (maxSteps := 4000000) only [go_sem, ↓op_move, ↓op_assign, ↓op_pick, ↓op_alloc, ↓op_box, ↓op_build, ↓op_buildSlice, ↓op_load, ↓op_store, ↓op_nilCheck, ↓op_bin, ↓op_un, ↓op_convert, ↓op_makeFunc, ↓op_makeSlice, ↓op_slice, ↓op_fieldAddr, ↓op_field, ↓op_indexAddr, ↓op_index, ↓op_extract, ↓op_lookup, ↓op_mapUpdate, ↓op_makeMap, ↓op_range, ↓op_next, ↓op_call, ↓op_builtin, ↓g_tt, ↓g_ff, ↓g_tf, ↓g_ft, ↓g_tnt, ↓g_tnf, ↓g_fnt, ↓g_fnf, ↓mkT_getD, hd, hp, hti, hS, hz2, ha2]
          have e1 := st_flat (n := n) (get := get) (i := i) hz
          rw [if_neg fun q => hat q.symm] at e1
          have hrow : [V.int .i64 (stLo n get (sqE a b c d e f) (min c f) (max c f) 0 0 c i), V.int .i64 (stHi n get (sqE a b c d e f) (min c f) (max c f) 0 0 c i)] = [V.int .i64 (rootE (sqE a b c d e f * 0 * 0) 10000), V.int .i64 (rootUp (sqE a b c d e f * 0 * 0) 10000)] := by
            unfold stLo stHi
            rw [e1.1, e1.2]
            rfl
          exact ⟨⟨hair, hok, ⟨by omega, by omega⟩, by omega, by omega⟩, ⟨hair, hok, ⟨by omega, by omega⟩, by omega, by omega⟩, inK_of (by omega) (by omega), inK_of (by omega) (by omega), ⟨hair, hok, by omega, by omega⟩, inK_of (by omega) (by omega), ⟨hpath, by omega, by omega⟩, inK_of (by decide) (by decide), ⟨hsq.1, by omega⟩, ⟨by omega, by omega, row_ok rfl ones2⟩, inK_of (by omega) (by omega), i + 1, hlt, by omega, ⟨rfl, by rw [Int.natCast_add]; rfl⟩, HpLe.arr1 (updH_same _ _ _) rfl rfl fun j hj => snoc (f := fun i => [V.int .i64 (stLo n get (sqE a b c d e f) (min c f) (max c f) 0 0 c i), V.int .i64 (stHi n get (sqE a b c d e f) (min c f) (max c f) 0 0 c i)]) rfl hrow hj⟩
      · have hz2 : decide (max c f - min c f = 0) = false := decide_eq_false hz
        rw [← hq0]
        clear hq0
        simp (maxSteps := 4000000) only [go_sem, ↓op_move, ↓op_assign, ↓op_pick, ↓op_alloc, ↓op_box, ↓op_build, ↓op_buildSlice, ↓op_load, ↓op_store, ↓op_nilCheck, ↓op_bin, ↓op_un, ↓op_convert, ↓op_makeFunc, ↓op_makeSlice, ↓op_slice, ↓op_fieldAddr, ↓op_field, ↓op_indexAddr, ↓op_index, ↓op_extract, ↓op_lookup, ↓op_mapUpdate, ↓op_makeMap, ↓op_range, ↓op_next, ↓op_call, ↓op_builtin, ↓g_tt, ↓g_ff, ↓g_tf, ↓g_ft, ↓g_tnt, ↓g_tnf, ↓g_fnt, ↓g_fnf, ↓mkT_getD, hd, hp, hti, hS, hz2]
        have e1 := st_slant hok hlt hz p3 p6
        have hrow : [V.int .i64 (stLo n get (sqE a b c d e f) (min c f) (max c f) 0 0 c i), V.int .i64 (stHi n get (sqE a b c d e f) (min c f) (max c f) 0 0 c i)] = [V.int .i64 (rootE (sqE a b c d e f * (winR n get i (max c f) - winR n get i (min c f)) * (winR n get i (max c f) - winR n get i (min c f))) ((max c f - min c f) * 100 * ((max c f - min c f) * 100))), V.int .i64 (rootUp (sqE a b c d e f * (winR n get i (max c f) - winR n get i (min c f)) * (winR n get i (max c f) - winR n get i (min c f))) ((max c f - min c f) * 100 * ((max c f - min c f) * 100)))] := by
          unfold stLo stHi
          rw [e1.1, e1.2, show (max c f - min c f) * (max c f - min c f) * 100 * 100 = (max c f - min c f) * 100 * ((max c f - min c f) * 100) by ac_rfl]
        exact ⟨⟨hair, hok, ⟨by omega, by omega⟩, by omega, by omega⟩, ⟨hair, hok, ⟨by omega, by omega⟩, by omega, by omega⟩, inK_of (by omega) (by omega), inK_of (by omega) (by omega), inK_of (by omega) (by omega), ⟨hpath, by omega, by omega⟩, inK_of (by omega) (by omega), ⟨⟨hsq.1, by omega⟩, ⟨by omega, by omega⟩, ⟨by omega, by omega⟩, by omega⟩, ⟨by omega, by omega, row_ok rfl ones2⟩, inK_of (by omega) (by omega), i + 1, hlt, by omega, ⟨rfl, by rw [Int.natCast_add]; rfl⟩, HpLe.arr1 (updH_same _ _ _) rfl rfl fun j hj => snoc (f := fun i => [V.int .i64 (stLo n get (sqE a b c d e f) (min c f) (max c f) 0 0 c i), V.int .i64 (stHi n get (sqE a b c d e f) (min c f) (max c f) 0 0 c i)]) rfl hrow hj⟩
    · have hd : decide ((i : Int) < (n : Int)) = false := by simp; omega
      obtain rfl : i = n := by omega
      rw [← hq0]
      clear hq0
      simp (maxSteps := 4000000) only [go_sem, ↓op_move, ↓op_assign, ↓op_pick, ↓op_alloc, ↓op_box, ↓op_build, ↓op_buildSlice, ↓op_load, ↓op_store, ↓op_nilCheck, ↓op_bin, ↓op_un, ↓op_convert, ↓op_makeFunc, ↓op_makeSlice, ↓op_slice, ↓op_fieldAddr, ↓op_field, ↓op_indexAddr, ↓op_index, ↓op_extract, ↓op_lookup, ↓op_mapUpdate, ↓op_makeMap, ↓op_range, ↓op_next, ↓op_call, ↓op_builtin, ↓g_tt, ↓g_ff, ↓g_tf, ↓g_ft, ↓g_tnt, ↓g_tnf, ↓g_fnt, ↓g_fnf, ↓mkT_getD, hd, hp, Nat.zero_add]
      exact VEnt.refl _
end Go.Fly.Tryz
