/- The air: opposite winds, copies; how paths are bent. -/
import Derived.Test.YtmlknpghkclffaaGreatDoorSYABL
import Derived.Test.YtmlknpghkclffaaGreatDoorAK
set_option linter.unusedSimpArgs false
set_option linter.unusedVariables false
set_option maxRecDepth 100000
set_option maxHeartbeats 2000000
namespace Go.Fly.Tryz
open Go

theorem eNan_ok : Holds Proofs.Tryz.prog G0 171 nanC := by
  refine Holds.of_exC D171 Proofs.Tryz.func171 rfl foll (by kernel_rfl) (tab []) (tab_ok trivial) G0_ok fun k0 rl args hpu hpre => ?_
  unfold nanC at hpre ⊢
  split at hpre
  rotate_left
  · exact hpre.elim
  simp only [Proofs.Tryz.f171]
  simp (maxSteps := 4000000) only [go_sem, ↓op_move, ↓op_assign, ↓op_pick, ↓op_alloc, ↓op_box, ↓op_build, ↓op_buildSlice, ↓op_load, ↓op_store, ↓op_nilCheck, ↓op_bin, ↓op_un, ↓op_convert, ↓op_makeFunc, ↓op_makeSlice, ↓op_slice, ↓op_fieldAddr, ↓op_field, ↓op_indexAddr, ↓op_index, ↓op_extract, ↓op_lookup, ↓op_mapUpdate, ↓op_makeMap, ↓op_range, ↓op_next, ↓op_call, ↓op_builtin, ↓g_tt, ↓g_ff, ↓g_tf, ↓g_ft, ↓g_tnt, ↓g_tnf, ↓g_fnt, ↓g_fnf, ↓mkT_getD]
  exact VEnt.of_eq (by simp)

theorem eCmp_ok : Holds Proofs.Tryz.prog G0 151 cmpC := by
  refine Holds.of_exC D151 Proofs.Tryz.func151 rfl foll (by kernel_rfl) (tab [(171, nanC)]) (tab_ok ⟨eNan_ok, trivial⟩) G0_ok fun k0 rl args hpu hpre => ?_
  unfold cmpC at hpre ⊢
  split at hpre
  rotate_left
  · exact hpre.elim
  simp only [Proofs.Tryz.f151]
  simp (maxSteps := 4000000) only [go_sem, ↓op_move, ↓op_assign, ↓op_pick, ↓op_alloc, ↓op_box, ↓op_build, ↓op_buildSlice, ↓op_load, ↓op_store, ↓op_nilCheck, ↓op_bin, ↓op_un, ↓op_convert, ↓op_makeFunc, ↓op_makeSlice, ↓op_slice, ↓op_fieldAddr, ↓op_field, ↓op_indexAddr, ↓op_index, ↓op_extract, ↓op_lookup, ↓op_mapUpdate, ↓op_makeMap, ↓op_range, ↓op_next, ↓op_call, ↓op_builtin, ↓g_tt, ↓g_ff, ↓g_tf, ↓g_ft, ↓g_tnt, ↓g_tnf, ↓g_fnt, ↓g_fnf, ↓mkT_getD]
  refine ⟨fun h => VEnt.of_eq (by simp [cmpE, h]), fun h => ⟨fun h2 => VEnt.of_eq (by simp [cmpE, h, h2]), fun h2 => VEnt.of_eq (by simp [cmpE, h, h2])⟩⟩

theorem aDirP_ok : Holds Proofs.Tryz.prog G0 125 dirPC := by
  refine Holds.of_exC D125 Proofs.Tryz.func125 rfl foll (by kernel_rfl) (tab [(iceKey 1, iceC)]) (tab_ok ⟨ice_holds, trivial⟩) G0_ok fun k0 rl args hpu hpre => ?_
  unfold dirPC at hpre ⊢
  split at hpre
  rotate_left
  · exact hpre.elim
  simp only [Proofs.Tryz.f125]
  rw [enter_mkT (Nat.le_of_ble_eq_true rfl)]
  simp (maxSteps := 4000000) only [go_sem, ↓op_move, ↓op_assign, ↓op_pick, ↓op_alloc, ↓op_box, ↓op_build, ↓op_buildSlice, ↓op_load, ↓op_store, ↓op_nilCheck, ↓op_bin, ↓op_un, ↓op_convert, ↓op_makeFunc, ↓op_makeSlice, ↓op_slice, ↓op_fieldAddr, ↓op_field, ↓op_indexAddr, ↓op_index, ↓op_extract, ↓op_lookup, ↓op_mapUpdate, ↓op_makeMap, ↓op_range, ↓op_next, ↓op_call, ↓op_builtin, ↓g_tt, ↓g_ff, ↓g_tf, ↓g_ft, ↓g_tnt, ↓g_tnf, ↓g_fnt, ↓g_fnf, ↓mkT_getD]
  exact ⟨inK_of (by omega) (by omega), inK_of (by omega) (by omega), VEnt.of_eq rfl⟩

theorem aOwn_ok : Holds Proofs.Tryz.prog G0 87 ownLayC := by
  refine Holds.of_exC D87 Proofs.Tryz.func87 rfl foll (by kernel_rfl) (tab []) (tab_ok trivial) G0_ok fun k0 rl args hpu hpre => ?_
  unfold ownLayC at hpre ⊢
  split at hpre
  rotate_left
  · exact hpre.elim
  rename_i th sp wx wy m sz g
  obtain ⟨rfl, hiv, hm⟩ := hpre
  have hpu := hiv.pu
  simp only [Proofs.Tryz.f87]
  rw [enter_mkT (Nat.le_of_ble_eq_true rfl)]
  simp (maxSteps := 4000000) only [go_sem, ↓op_move, ↓op_assign, ↓op_pick, ↓op_alloc, ↓op_box, ↓op_build, ↓op_buildSlice, ↓op_load, ↓op_store, ↓op_nilCheck, ↓op_bin, ↓op_un, ↓op_convert, ↓op_makeFunc, ↓op_makeSlice, ↓op_slice, ↓op_fieldAddr, ↓op_field, ↓op_indexAddr, ↓op_index, ↓op_extract, ↓op_lookup, ↓op_mapUpdate, ↓op_makeMap, ↓op_range, ↓op_next, ↓op_call, ↓op_builtin, ↓g_tt, ↓g_ff, ↓g_tf, ↓g_ft, ↓g_tnt, ↓g_tnf, ↓g_fnt, ↓g_fnf, ↓mkT_getD, hpu, Nat.zero_add]
  have hone : ∀ i, i < m → ∀ v ∈ g i, Pu v ∧ oneC v = true := fun i hi v hv => by
    rw [hiv.2 i hi] at hv
    exact ones2 v hv
  refine ⟨⟨by omega, by omega, by omega, by omega⟩, hone, VEnt.agg ⟨VEnt.refl _, VEnt.refl _, VEnt.refl _, VEnt.refl _, VEnt.sl fun i hi => frzRow_sl hpu hi, trivial⟩⟩

theorem aRev1_ok : Holds Proofs.Tryz.prog G0 90 revLayC := by
  refine Holds.of_exC D90 Proofs.Tryz.func90 rfl foll (by kernel_rfl) (tab [(87, ownLayC)]) (tab_ok ⟨aOwn_ok, trivial⟩) G0_ok fun k0 rl args hpu hpre => ?_
  unfold revLayC at hpre ⊢
  split at hpre
  rotate_left
  · exact hpre.elim
  rename_i th sp wx wy m sz g
  obtain ⟨rfl, hiv, hm, h1, h2⟩ := hpre
  have hpu := hiv.pu
  simp only [Proofs.Tryz.f90]
  rw [enter_mkT (Nat.le_of_ble_eq_true rfl)]
  simp (maxSteps := 4000000) only [go_sem, ↓op_move, ↓op_assign, ↓op_pick, ↓op_alloc, ↓op_box, ↓op_build, ↓op_buildSlice, ↓op_load, ↓op_store, ↓op_nilCheck, ↓op_bin, ↓op_un, ↓op_convert, ↓op_makeFunc, ↓op_makeSlice, ↓op_slice, ↓op_fieldAddr, ↓op_field, ↓op_indexAddr, ↓op_index, ↓op_extract, ↓op_lookup, ↓op_mapUpdate, ↓op_makeMap, ↓op_range, ↓op_next, ↓op_call, ↓op_builtin, ↓g_tt, ↓g_ff, ↓g_tf, ↓g_ft, ↓g_tnt, ↓g_tnf, ↓g_fnt, ↓g_fnf, ↓mkT_getD, hpu]
  exact ⟨⟨hiv, hm⟩, inK_of (by omega) (by omega), inK_of (by omega) (by omega), VEnt.of_eq rfl⟩

theorem aMapLay_ok : Holds Proofs.Tryz.prog G0 88 (mapLayC 90 87) := by
  refine Holds.of_exC D88 Proofs.Tryz.func88 rfl foll (by kernel_rfl) (tab [(87, ownLayC), (90, revLayC)]) (tab_ok ⟨aOwn_ok, aRev1_ok, trivial⟩) G0_ok fun k0 rl args hpu hpre => ?_
  unfold mapLayC at hpre ⊢
  split at hpre
  rotate_left
  · exact hpre.elim
  rename_i n sz get g
  obtain ⟨rfl, hair, hg, hn, hb⟩ := hpre
  have hpu := hair.pu
  rcases hg with rfl | rfl
  all_goals
    simp only [Proofs.Tryz.f88]
    rw [enter_mkT (Nat.le_of_ble_eq_true rfl)]
    simp (maxSteps := 4000000) only [go_sem, ↓op_move, ↓op_assign, ↓op_pick, ↓op_alloc, ↓op_box, ↓op_build, ↓op_buildSlice, ↓op_load, ↓op_store, ↓op_nilCheck, ↓op_bin, ↓op_un, ↓op_convert, ↓op_makeFunc, ↓op_makeSlice, ↓op_slice, ↓op_fieldAddr, ↓op_field, ↓op_indexAddr, ↓op_index, ↓op_extract, ↓op_lookup, ↓op_mapUpdate, ↓op_makeMap, ↓op_range, ↓op_next, ↓op_call, ↓op_builtin, ↓g_tt, ↓g_ff, ↓g_tf, ↓g_ft, ↓g_tnt, ↓g_tnf, ↓g_fnt, ↓g_fnf, ↓mkT_getD, hpu]
    refine RestT.ents (Ents.nilArr (d := 5) (l := (4, 1000)) 5 (fun _ => []) rfl rfl rfl) ?_
    simp (maxSteps := 4000000) only [go_sem, ↓op_move, ↓op_assign, ↓op_pick, ↓op_alloc, ↓op_box, ↓op_build, ↓op_buildSlice, ↓op_load, ↓op_store, ↓op_nilCheck, ↓op_bin, ↓op_un, ↓op_convert, ↓op_makeFunc, ↓op_makeSlice, ↓op_slice, ↓op_fieldAddr, ↓op_field, ↓op_indexAddr, ↓op_index, ↓op_extract, ↓op_lookup, ↓op_mapUpdate, ↓op_makeMap, ↓op_range, ↓op_next, ↓op_call, ↓op_builtin, ↓g_tt, ↓g_ff, ↓g_tf, ↓g_ft, ↓g_tnt, ↓g_tnf, ↓g_fnt, ↓g_fnf, ↓mkT_getD]
  · refine RestT.loopF (β := Nat) [(5, 5), (7, 7), (10, 20)] (fun i => [(5, .msl (4, 1000) 0 i), (10, .int .i64 i)]) (fun i => updH (fun _ => none) (4, 1000) (.arr i 5 (revG get))) (fun i => i ≤ n) (fun i => n - i) 0 (Nat.zero_le _) ?_
      (HpLe.arr1 (updH_same _ _ _) rfl rfl fun i hi => by omega) ?_
    · simp (maxSteps := 4000000) only [go_sem, ↓op_move, ↓op_assign, ↓op_pick, ↓op_alloc, ↓op_box, ↓op_build, ↓op_buildSlice, ↓op_load, ↓op_store, ↓op_nilCheck, ↓op_bin, ↓op_un, ↓op_convert, ↓op_makeFunc, ↓op_makeSlice, ↓op_slice, ↓op_fieldAddr, ↓op_field, ↓op_indexAddr, ↓op_index, ↓op_extract, ↓op_lookup, ↓op_mapUpdate, ↓op_makeMap, ↓op_range, ↓op_next, ↓op_call, ↓op_builtin, ↓g_tt, ↓g_ff, ↓g_tf, ↓g_ft, ↓g_tnt, ↓g_tnf, ↓g_fnt, ↓g_fnf, ↓mkT_getD]
      try exact rfl
    · intro ck i hck hi
      generalize hq0 : exC _ _ _ _ _ = gg
      by_cases hlt : i < n
      · have hd : decide ((i : Int) < (n : Int)) = true := by simp; omega
        obtain ⟨hg, hiv⟩ := hair.2 i hlt
        have hp2 := hiv.pu
        obtain ⟨b1, b2, b3⟩ := hb i hlt
        rw [← hq0]
        clear hq0
        simp (maxSteps := 4000000) only [go_sem, ↓op_move, ↓op_assign, ↓op_pick, ↓op_alloc, ↓op_box, ↓op_build, ↓op_buildSlice, ↓op_load, ↓op_store, ↓op_nilCheck, ↓op_bin, ↓op_un, ↓op_convert, ↓op_makeFunc, ↓op_makeSlice, ↓op_slice, ↓op_fieldAddr, ↓op_field, ↓op_indexAddr, ↓op_index, ↓op_extract, ↓op_lookup, ↓op_mapUpdate, ↓op_makeMap, ↓op_range, ↓op_next, ↓op_call, ↓op_builtin, ↓g_tt, ↓g_ff, ↓g_tf, ↓g_ft, ↓g_tnt, ↓g_tnf, ↓g_fnt, ↓g_fnf, ↓mkT_getD, hg, hd, hpu, hp2]
        refine ⟨⟨by omega, by omega⟩, ⟨hiv, b1, b2, b3⟩, ⟨by omega, by omega, row_ok rfl (ones5 hp2)⟩, inK_of (by omega) (by omega), i + 1, hlt, by omega, ⟨rfl, rfl⟩, HpLe.arr1 (updH_same _ _ _) rfl rfl fun j hj => snoc (f := revG get) rfl rfl hj⟩
      · have hd : decide ((i : Int) < (n : Int)) = false := by simp; omega
        obtain rfl : i = n := by omega
        rw [← hq0]
        clear hq0
        simp (maxSteps := 4000000) only [go_sem, ↓op_move, ↓op_assign, ↓op_pick, ↓op_alloc, ↓op_box, ↓op_build, ↓op_buildSlice, ↓op_load, ↓op_store, ↓op_nilCheck, ↓op_bin, ↓op_un, ↓op_convert, ↓op_makeFunc, ↓op_makeSlice, ↓op_slice, ↓op_fieldAddr, ↓op_field, ↓op_indexAddr, ↓op_index, ↓op_extract, ↓op_lookup, ↓op_mapUpdate, ↓op_makeMap, ↓op_range, ↓op_next, ↓op_call, ↓op_builtin, ↓g_tt, ↓g_ff, ↓g_tf, ↓g_ft, ↓g_tnt, ↓g_tnf, ↓g_fnt, ↓g_fnf, ↓mkT_getD, hd, hpu]
        exact ⟨(4, 1000), i, 5, _, _, rfl, by rw [if_pos rfl], fun _ _ => rfl, rfl, rfl, (isAir_rev hair).pu⟩
  · refine RestT.loopF (β := Nat) [(5, 5), (7, 7), (10, 20)] (fun i => [(5, .msl (4, 1000) 0 i), (10, .int .i64 i)]) (fun i => updH (fun _ => none) (4, 1000) (.arr i 5 get)) (fun i => i ≤ n) (fun i => n - i) 0 (Nat.zero_le _) ?_
      (HpLe.arr1 (updH_same _ _ _) rfl rfl fun i hi => by omega) ?_
    · simp (maxSteps := 4000000) only [go_sem, ↓op_move, ↓op_assign, ↓op_pick, ↓op_alloc, ↓op_box, ↓op_build, ↓op_buildSlice, ↓op_load, ↓op_store, ↓op_nilCheck, ↓op_bin, ↓op_un, ↓op_convert, ↓op_makeFunc, ↓op_makeSlice, ↓op_slice, ↓op_fieldAddr, ↓op_field, ↓op_indexAddr, ↓op_index, ↓op_extract, ↓op_lookup, ↓op_mapUpdate, ↓op_makeMap, ↓op_range, ↓op_next, ↓op_call, ↓op_builtin, ↓g_tt, ↓g_ff, ↓g_tf, ↓g_ft, ↓g_tnt, ↓g_tnf, ↓g_fnt, ↓g_fnf, ↓mkT_getD]
      try exact rfl
    · intro ck i hck hi
      generalize hq0 : exC _ _ _ _ _ = gg
      by_cases hlt : i < n
      · have hd : decide ((i : Int) < (n : Int)) = true := by simp; omega
        obtain ⟨hg, hiv⟩ := hair.2 i hlt
        have hp2 := hiv.pu
        obtain ⟨b1, b2, b3⟩ := hb i hlt
        rw [← hq0]
        clear hq0
        simp (maxSteps := 4000000) only [go_sem, ↓op_move, ↓op_assign, ↓op_pick, ↓op_alloc, ↓op_box, ↓op_build, ↓op_buildSlice, ↓op_load, ↓op_store, ↓op_nilCheck, ↓op_bin, ↓op_un, ↓op_convert, ↓op_makeFunc, ↓op_makeSlice, ↓op_slice, ↓op_fieldAddr, ↓op_field, ↓op_indexAddr, ↓op_index, ↓op_extract, ↓op_lookup, ↓op_mapUpdate, ↓op_makeMap, ↓op_range, ↓op_next, ↓op_call, ↓op_builtin, ↓g_tt, ↓g_ff, ↓g_tf, ↓g_ft, ↓g_tnt, ↓g_tnf, ↓g_fnt, ↓g_fnf, ↓mkT_getD, hg, hd, hpu, hp2]
        refine ⟨⟨by omega, by omega⟩, ⟨hiv, b1⟩, ⟨by omega, by omega, row_ok rfl (ones5 hp2)⟩, inK_of (by omega) (by omega), i + 1, hlt, by omega, ⟨rfl, rfl⟩, HpLe.arr1 (updH_same _ _ _) rfl rfl fun j hj => snoc (f := get) rfl hg hj⟩
      · have hd : decide ((i : Int) < (n : Int)) = false := by simp; omega
        obtain rfl : i = n := by omega
        rw [← hq0]
        clear hq0
        simp (maxSteps := 4000000) only [go_sem, ↓op_move, ↓op_assign, ↓op_pick, ↓op_alloc, ↓op_box, ↓op_build, ↓op_buildSlice, ↓op_load, ↓op_store, ↓op_nilCheck, ↓op_bin, ↓op_un, ↓op_convert, ↓op_makeFunc, ↓op_makeSlice, ↓op_slice, ↓op_fieldAddr, ↓op_field, ↓op_indexAddr, ↓op_index, ↓op_extract, ↓op_lookup, ↓op_mapUpdate, ↓op_makeMap, ↓op_range, ↓op_next, ↓op_call, ↓op_builtin, ↓g_tt, ↓g_ff, ↓g_tf, ↓g_ft, ↓g_tnt, ↓g_tnf, ↓g_fnt, ↓g_fnf, ↓mkT_getD, hd, hpu]
        exact ⟨(4, 1000), i, 5, _, _, rfl, by rw [if_pos rfl], fun _ _ => rfl, rfl, rfl, hair.pu⟩

theorem aFast_ok : Holds Proofs.Tryz.prog G0 120 fastC := by
  refine Holds.of_exC D120 Proofs.Tryz.func120 rfl foll (by kernel_rfl) (tab [(151, cmpC), (iceKey 3, iceC), (iceKey 4, iceC), (iceKey 5, iceC)]) (tab_ok ⟨eCmp_ok, ice_holds, ice_holds, ice_holds, trivial⟩) G0_ok fun k0 rl args hpu hpre => ?_
  unfold fastC at hpre ⊢
  split at hpre
  rotate_left
  · exact hpre.elim
  rename_i th sp wx wy m sz g th2 sp2 wx2 wy2 m2 sz2 g2 ax ay
  obtain ⟨p1, p2, h1, h2, h3, h4, h5, h6, h7, h8, h9⟩ := hpre
  obtain ⟨S, hS⟩ : ∃ S, sp - sp2 = S := ⟨_, rfl⟩
  obtain ⟨U, hU⟩ : ∃ U, wx - wx2 = U := ⟨_, rfl⟩
  obtain ⟨W2, hW2⟩ : ∃ U, wy - wy2 = U := ⟨_, rfl⟩
  have bd := fast_bd (s := S) (u := U) (v := W2) (by omega) (by omega) (by omega) h8 h9
  obtain ⟨W, hW⟩ : ∃ W, U * ax + W2 * ay = W := ⟨_, rfl⟩
  obtain ⟨a, b, ha, hb, hab⟩ := fast_cases S W
  rw [hW] at bd
  obtain ⟨bd1, bd2, bd3, bd4, bd5, bd6, bd7⟩ := bd
  have hF : fastE S U W2 ax ay = cmpE (leftE S ax ay + rightE W) 0 := by unfold fastE; rw [hW]
  cases heq : (decide (wx = wx2) && decide (wy = wy2))
  · rcases hab with ⟨rfl, rfl⟩ | ⟨rfl, rfl⟩ | ⟨rfl, rfl⟩ | ⟨rfl, rfl⟩
    all_goals
      simp only [Proofs.Tryz.f120]
      rw [enter_mkT (Nat.le_of_ble_eq_true rfl)]
      simp (maxSteps := 4000000) only [go_sem, ↓op_move, ↓op_assign, ↓op_pick, ↓op_alloc, ↓op_box, ↓op_build, ↓op_buildSlice, ↓op_load, ↓op_store, ↓op_nilCheck, ↓op_bin, ↓op_un, ↓op_convert, ↓op_makeFunc, ↓op_makeSlice, ↓op_slice, ↓op_fieldAddr, ↓op_field, ↓op_indexAddr, ↓op_index, ↓op_extract, ↓op_lookup, ↓op_mapUpdate, ↓op_makeMap, ↓op_range, ↓op_next, ↓op_call, ↓op_builtin, ↓g_tt, ↓g_ff, ↓g_tf, ↓g_ft, ↓g_tnt, ↓g_tnf, ↓g_fnt, ↓g_fnf, ↓mkT_getD, p1, p2, heq, hS, hU, hW2, hW, ha, hb]
      refine ⟨inK_of (by omega) (by omega), inK_of (by omega) (by omega), inK_of (by omega) (by omega), inK_of (by omega) (by omega), inK_of (by omega) (by omega), inK_of (by omega) (by omega), inK_of (by omega) (by omega), inK_of (by omega) (by omega), inK_of (by omega) (by omega), inK_of (by omega) (by omega), inK_of (by omega) (by omega), inK_of (by omega) (by omega), ?_⟩
      simp only [decide_eq_true_eq, decide_eq_false_iff_not] at ha hb
      rw [hF]
      unfold leftE rightE
    · rw [if_pos ha, if_pos hb]
      exact ⟨inK_of (by omega) (by omega), inK_of (by omega) (by omega), inK_of (by omega) (by omega), VEnt.of_eq rfl⟩
    · rw [if_pos ha, if_neg hb]
      exact ⟨inK_of (by omega) (by omega), inK_of (by omega) (by omega), VEnt.of_eq rfl⟩
    · rw [if_neg ha, if_pos hb]
      exact ⟨inK_of (by omega) (by omega), inK_of (by omega) (by omega), VEnt.of_eq rfl⟩
    · rw [if_neg ha, if_neg hb]
      exact ⟨inK_of (by omega) (by omega), VEnt.of_eq rfl⟩
  · simp only [Bool.and_eq_true, decide_eq_true_eq] at heq
    have hU0 : U = 0 := by omega
    have hW0 : W2 = 0 := by omega
    have hWW : W = 0 := by rw [← hW, hU0, hW0]; simp
    have heq2 : (decide (wx = wx2) && decide (wy = wy2)) = true := by simp [heq]
    have hz : (0 : Int) * 0 = 0 := rfl
    have hz0 : decide ((0 : Int) < 0) = false := rfl
    cases ha2 : decide (S < 0)
    all_goals
      simp only [Proofs.Tryz.f120]
      rw [enter_mkT (Nat.le_of_ble_eq_true rfl)]
      simp (maxSteps := 4000000) only [go_sem, ↓op_move, ↓op_assign, ↓op_pick, ↓op_alloc, ↓op_box, ↓op_build, ↓op_buildSlice, ↓op_load, ↓op_store, ↓op_nilCheck, ↓op_bin, ↓op_un, ↓op_convert, ↓op_makeFunc, ↓op_makeSlice, ↓op_slice, ↓op_fieldAddr, ↓op_field, ↓op_indexAddr, ↓op_index, ↓op_extract, ↓op_lookup, ↓op_mapUpdate, ↓op_makeMap, ↓op_range, ↓op_next, ↓op_call, ↓op_builtin, ↓g_tt, ↓g_ff, ↓g_tf, ↓g_ft, ↓g_tnt, ↓g_tnf, ↓g_fnt, ↓g_fnf, ↓mkT_getD, p1, p2, heq2, hS, hU, hW2, hW, ha2, hz, hz0]
      refine ⟨inK_of (by omega) (by omega), inK_of (by omega) (by omega), inK_of (by omega) (by omega), inK_of (by omega) (by omega), inK_of (by omega) (by omega), inK_of (by omega) (by omega), inK_of (by omega) (by omega), inK_of (by omega) (by omega), inK_of (by omega) (by omega), inK_of (by omega) (by omega), inK_of (by omega) (by omega), inK_of (by omega) (by omega), ?_⟩
      simp only [decide_eq_true_eq, decide_eq_false_iff_not] at ha2
      rw [hF, hWW]
      unfold leftE rightE
    · rw [if_neg ha2, if_neg (by decide)]
      exact ⟨inK_of (by omega) (by omega), VEnt.of_eq rfl⟩
    · rw [if_pos ha2, if_neg (by decide)]
      exact ⟨inK_of (by omega) (by omega), inK_of (by omega) (by omega), VEnt.of_eq rfl⟩

theorem aBent_ok : Holds Proofs.Tryz.prog G0 124 bentC := by
  refine Holds.of_exC D124 Proofs.Tryz.func124 rfl foll (by kernel_rfl) (tab [(85, atC), (120, fastC), (125, dirPC), (iceKey 3, iceC)]) (tab_ok ⟨aAt_ok, aFast_ok, aDirP_ok, ice_holds, trivial⟩) G0_ok fun k0 rl args hpu hpre => ?_
  unfold bentC at hpre ⊢
  split at hpre
  rotate_left
  · exact hpre.elim
  rename_i n sz get a b c d e f
  obtain ⟨rfl, hair, hae, hp⟩ := hpre
  have hpu := hair.pu
  have hok := airE_ok hae
  obtain ⟨⟨a1, a2, a3⟩, ⟨a4, a5, a6⟩, a7⟩ := hp
  obtain ⟨jx, hjx, hat⟩ := atE_ok hok (h := max c f) (by omega)
  obtain ⟨jn, hjn, han⟩ := atE_ok hok (h := min c f) (by omega)
  obtain ⟨hgx, hivx⟩ := hair.2 jx hjx
  obtain ⟨hgn, hivn⟩ := hair.2 jn hjn
  have hp3 := hivx.pu
  have hp4 := hivn.pu
  simp only [Proofs.Tryz.f124]
  rw [enter_mkT (Nat.le_of_ble_eq_true rfl)]
  simp (maxSteps := 4000000) only [go_sem, ↓op_move, ↓op_assign, ↓op_pick, ↓op_alloc, ↓op_box, ↓op_build, ↓op_buildSlice, ↓op_load, ↓op_store, ↓op_nilCheck, ↓op_bin, ↓op_un, ↓op_convert, ↓op_makeFunc, ↓op_makeSlice, ↓op_slice, ↓op_fieldAddr, ↓op_field, ↓op_indexAddr, ↓op_index, ↓op_extract, ↓op_lookup, ↓op_mapUpdate, ↓op_makeMap, ↓op_range, ↓op_next, ↓op_call, ↓op_builtin, ↓g_tt, ↓g_ff, ↓g_tf, ↓g_ft, ↓g_tnt, ↓g_tnf, ↓g_fnt, ↓g_fnf, ↓mkT_getD, hpu, hat, han, hgx, hgn, hp3, hp4]
  have w1 := airE_wind hae hjx
  have w2 := airE_wind hae hjn
  have e1 : bentE n get a b c d e f = if botE get jx = botE get jn ∨ (d - a = 0 ∧ e - b = 0) then 0 else fastE (cell get jx 1 - cell get jn 1) (cell get jx 2 - cell get jn 2) (cell get jx 3 - cell get jn 3) (d - a) (e - b) := by
    unfold bentE; rw [hat, han]; rfl
  refine ⟨⟨hair, hok, by omega, by omega⟩, ⟨hair, hok, by omega, by omega⟩, fun hne => ⟨⟨a1, a2, a4, a5⟩, fun q => VEnt.of_eq ?_, fun q => ⟨⟨a1, a2, a4, a5⟩, ⟨by omega, by omega, by omega, by omega, by omega, by omega, by omega, by omega, by omega⟩, VEnt.of_eq ?_⟩⟩, fun heq => VEnt.of_eq ?_⟩
  · simp only [Bool.and_eq_true, decide_eq_true_eq] at q
    rw [e1, if_pos (.inr q)]
  · have q : ¬ (d - a = 0 ∧ e - b = 0) := by simpa using q
    rw [e1, if_neg (fun h => h.elim hne q)]
  · rw [e1, if_pos (.inl heq)]

end Go.Fly.Tryz
