/- Airs, paths, energies: their errors, in the program and in the reference. -/
import Derived.Test.YtfpoimbidpojnaaGreatDoorSYZBB
set_option linter.unusedSimpArgs false
set_option linter.unusedVariables false
set_option maxRecDepth 100000
namespace Go.Fly.Tryz
open Go

theorem aMapLayer_ok : Holds Proofs.Tryz.prog G0 85 (mapLayerC 86) := by
  refine Holds.of_exC D85 Proofs.Tryz.func85 rfl foll (by kernel_rfl) (tab [(86, capLayerC)]) (tab_ok ⟨aLayer1_ok, trivial⟩) G0_ok fun k0 rl args hpu hpre => ?_
  unfold mapLayerC at hpre ⊢
  split at hpre
  rotate_left
  · exact hpre.elim
  rename_i n sz get g n' sz' get'
  obtain ⟨rfl, ⟨hn, hget⟩, hn2, rfl, rfl, hair', hn'⟩ := hpre
  have hp' := hair'.pu
  simp only [Proofs.Tryz.f85]
  simp (maxSteps := 4000000) only [go_sem, ↓op_move, ↓op_assign, ↓op_pick, ↓op_alloc, ↓op_box, ↓op_build, ↓op_buildSlice, ↓op_load, ↓op_store, ↓op_nilCheck, ↓op_bin, ↓op_un, ↓op_convert, ↓op_makeFunc, ↓op_makeSlice, ↓op_slice, ↓op_fieldAddr, ↓op_field, ↓op_indexAddr, ↓op_index, ↓op_extract, ↓op_lookup, ↓op_mapUpdate, ↓op_makeMap, ↓op_range, ↓op_next, ↓op_call, ↓op_builtin, ↓g_tt, ↓g_ff, ↓g_tf, ↓g_ft, ↓g_tnt, ↓g_tnf, ↓g_fnt, ↓g_fnf]
  refine RestT.ents (Ents.nilArr (d := 5) (l := (4, 1000)) 1 (fun _ => []) rfl rfl rfl) ?_
  simp (maxSteps := 4000000) only [go_sem, ↓op_move, ↓op_assign, ↓op_pick, ↓op_alloc, ↓op_box, ↓op_build, ↓op_buildSlice, ↓op_load, ↓op_store, ↓op_nilCheck, ↓op_bin, ↓op_un, ↓op_convert, ↓op_makeFunc, ↓op_makeSlice, ↓op_slice, ↓op_fieldAddr, ↓op_field, ↓op_indexAddr, ↓op_index, ↓op_extract, ↓op_lookup, ↓op_mapUpdate, ↓op_makeMap, ↓op_range, ↓op_next, ↓op_call, ↓op_builtin, ↓g_tt, ↓g_ff, ↓g_tf, ↓g_ft, ↓g_tnt, ↓g_tnf, ↓g_fnt, ↓g_fnf]
  refine RestT.loopI (β := Nat) [7, 11, 12, 13, 14, 15, 16, 17, 18, 19, 20] (fun i => [(5, .msl (4, 1000) 0 i), (10, .int .i64 i)]) (fun i => updH (fun _ => none) (4, 1000) (.arr i 1 (fun i => [.int .i64 (layAt get i (inN get' 0 4))]))) (fun i => i ≤ n) (fun i => n - i) 0 (Nat.zero_le _) ?_
    (HpLe.arr1 (updH_same _ _ _) rfl rfl fun i hi => by omega) ?_
  · simp (maxSteps := 4000000) only [go_sem, ↓op_move, ↓op_assign, ↓op_pick, ↓op_alloc, ↓op_box, ↓op_build, ↓op_buildSlice, ↓op_load, ↓op_store, ↓op_nilCheck, ↓op_bin, ↓op_un, ↓op_convert, ↓op_makeFunc, ↓op_makeSlice, ↓op_slice, ↓op_fieldAddr, ↓op_field, ↓op_indexAddr, ↓op_index, ↓op_extract, ↓op_lookup, ↓op_mapUpdate, ↓op_makeMap, ↓op_range, ↓op_next, ↓op_call, ↓op_builtin, ↓g_tt, ↓g_ff, ↓g_tf, ↓g_ft, ↓g_tnt, ↓g_tnf, ↓g_fnt, ↓g_fnf]
    try simp
  · intro ck i hck hi
    simp (maxSteps := 4000000) only [go_sem, ↓op_move, ↓op_assign, ↓op_pick, ↓op_alloc, ↓op_box, ↓op_build, ↓op_buildSlice, ↓op_load, ↓op_store, ↓op_nilCheck, ↓op_bin, ↓op_un, ↓op_convert, ↓op_makeFunc, ↓op_makeSlice, ↓op_slice, ↓op_fieldAddr, ↓op_field, ↓op_indexAddr, ↓op_index, ↓op_extract, ↓op_lookup, ↓op_mapUpdate, ↓op_makeMap, ↓op_range, ↓op_next, ↓op_call, ↓op_builtin, ↓g_tt, ↓g_ff, ↓g_tf, ↓g_ft, ↓g_tnt, ↓g_tnf, ↓g_fnt, ↓g_fnf]
    refine ⟨fun hlt => ?_, fun hge => ?_⟩
    · have hlt : i < n := by omega
      obtain ⟨hg, hiv⟩ := hget i hlt
      have hp := hiv.pu
      simp (maxSteps := 4000000) only [go_sem, ↓op_move, ↓op_assign, ↓op_pick, ↓op_alloc, ↓op_box, ↓op_build, ↓op_buildSlice, ↓op_load, ↓op_store, ↓op_nilCheck, ↓op_bin, ↓op_un, ↓op_convert, ↓op_makeFunc, ↓op_makeSlice, ↓op_slice, ↓op_fieldAddr, ↓op_field, ↓op_indexAddr, ↓op_index, ↓op_extract, ↓op_lookup, ↓op_mapUpdate, ↓op_makeMap, ↓op_range, ↓op_next, ↓op_call, ↓op_builtin, ↓g_tt, ↓g_ff, ↓g_tf, ↓g_ft, ↓g_tnt, ↓g_tnf, ↓g_fnt, ↓g_fnf, hg, hp, hp']
      refine ⟨⟨by omega, by omega⟩, ⟨hiv, hair', hn'⟩, ⟨by omega, by omega, row_ok rfl ones1⟩, inK_of (by omega) (by omega), i + 1, hlt, by omega, ⟨.inr rfl, .inr rfl⟩, HpLe.arr1 (updH_same _ _ _) rfl rfl fun j hj => snoc (f := fun i => [.int .i64 (layAt get i (inN get' 0 4))]) rfl rfl hj⟩
    · have : i = n := by omega
      subst this
      exact VEnt.of_eq (by simp)

theorem aAir_ok : Holds Proofs.Tryz.prog G0 56 airC := by
  refine Holds.of_exC D56 Proofs.Tryz.func56 rfl foll (by kernel_rfl) (tab [(45, firstC), (47, whenC), (85, mapLayerC 86), (86, capLayerC), (iceKey 1, iceC)]) (tab_ok ⟨aFirst_ok, aWhen_ok, aMapLayer_ok, aLayer1_ok, ice_holds, trivial⟩) G0_ok fun k0 rl args hpu hpre => ?_
  unfold airC at hpre ⊢
  split at hpre
  rotate_left
  · exact hpre.elim
  rename_i n sz get
  obtain ⟨rfl, hair⟩ := hpre
  have hp := hair.pu
  simp only [Proofs.Tryz.f56]
  simp (maxSteps := 4000000) only [go_sem, ↓op_move, ↓op_assign, ↓op_pick, ↓op_alloc, ↓op_box, ↓op_build, ↓op_buildSlice, ↓op_load, ↓op_store, ↓op_nilCheck, ↓op_bin, ↓op_un, ↓op_convert, ↓op_makeFunc, ↓op_makeSlice, ↓op_slice, ↓op_fieldAddr, ↓op_field, ↓op_indexAddr, ↓op_index, ↓op_extract, ↓op_lookup, ↓op_mapUpdate, ↓op_makeMap, ↓op_range, ↓op_next, ↓op_call, ↓op_builtin, ↓g_tt, ↓g_ff, ↓g_tf, ↓g_ft, ↓g_tnt, ↓g_tnf, ↓g_fnt, ↓g_fnf, hp]
  refine ⟨fun h => VEnt.of_eq ?_, fun h1 => ⟨⟨hair, ?_⟩, isInts_fn _ hair.1, VEnt.of_eq ?_⟩⟩
  · have h : airE0 n ≠ 0 := by simpa [airE0] using h
    simp only [airE, if_pos h]; rfl
  · have h1 : airE0 n = 0 := by simpa [airE0] using h1
    have := airE0_zero.1 h1
    exact ⟨by omega, hair, by omega⟩
  · have h1 : airE0 n = 0 := by simpa [airE0] using h1
    simp only [airE, h1, ne_eq, not_true_eq_false, if_false]

theorem aPath_ok : Holds Proofs.Tryz.prog G0 23 pathC := by
  refine Holds.of_exC D23 Proofs.Tryz.func23 rfl foll (by kernel_rfl) (tab [(45, firstC), (46, pointC 10000 10000), (47, whenC), (iceKey 1, iceC)]) (tab_ok ⟨aFirst_ok, aPoint_ok, aWhen_ok, ice_holds, trivial⟩) G0_ok fun k0 rl args hpu hpre => ?_
  unfold pathC at hpre ⊢
  split at hpre
  rotate_left
  · exact hpre.elim
  simp only [Proofs.Tryz.f23]
  simp (maxSteps := 4000000) only [go_sem, ↓op_move, ↓op_assign, ↓op_pick, ↓op_alloc, ↓op_box, ↓op_build, ↓op_buildSlice, ↓op_load, ↓op_store, ↓op_nilCheck, ↓op_bin, ↓op_un, ↓op_convert, ↓op_makeFunc, ↓op_makeSlice, ↓op_slice, ↓op_fieldAddr, ↓op_field, ↓op_indexAddr, ↓op_index, ↓op_extract, ↓op_lookup, ↓op_mapUpdate, ↓op_makeMap, ↓op_range, ↓op_next, ↓op_call, ↓op_builtin, ↓g_tt, ↓g_ff, ↓g_tf, ↓g_ft, ↓g_tnt, ↓g_tnf, ↓g_fnt, ↓g_fnf]
  exact VEnt.of_eq rfl

theorem aCheck_ok : Holds Proofs.Tryz.prog G0 33 checkC := by
  refine Holds.of_exC D33 Proofs.Tryz.func33 rfl foll (by kernel_rfl) (tab [(23, pathC), (45, firstC), (56, airC), (iceKey 3, iceC)]) (tab_ok ⟨aPath_ok, aFirst_ok, aAir_ok, ice_holds, trivial⟩) G0_ok fun k0 rl args hpu hpre => ?_
  unfold checkC at hpre ⊢
  split at hpre
  rotate_left
  · exact hpre.elim
  rename_i n sz get a b c d e f
  obtain ⟨rfl, hair⟩ := hpre
  have hp := hair.pu
  simp only [Proofs.Tryz.f33]
  simp (maxSteps := 4000000) only [go_sem, ↓op_move, ↓op_assign, ↓op_pick, ↓op_alloc, ↓op_box, ↓op_build, ↓op_buildSlice, ↓op_load, ↓op_store, ↓op_nilCheck, ↓op_bin, ↓op_un, ↓op_convert, ↓op_makeFunc, ↓op_makeSlice, ↓op_slice, ↓op_fieldAddr, ↓op_field, ↓op_indexAddr, ↓op_index, ↓op_extract, ↓op_lookup, ↓op_mapUpdate, ↓op_makeMap, ↓op_range, ↓op_next, ↓op_call, ↓op_builtin, ↓g_tt, ↓g_ff, ↓g_tf, ↓g_ft, ↓g_tnt, ↓g_tnf, ↓g_fnt, ↓g_fnf, hp]
  exact ⟨hair, VEnt.of_eq rfl⟩

theorem aEnergies_ok : Holds Proofs.Tryz.prog G0 38 energiesC := by
  refine Holds.of_exC D38 Proofs.Tryz.func38 rfl foll (by kernel_rfl) (tab [(45, firstC), (47, whenC), (65, mapIntC 66), (66, capRangeC), (iceKey 5, iceC)]) (tab_ok ⟨aFirst_ok, aWhen_ok, aMapInt_ok, aEn1_ok, ice_holds, trivial⟩) G0_ok fun k0 rl args hpu hpre => ?_
  unfold energiesC at hpre ⊢
  split at hpre
  rotate_left
  · exact hpre.elim
  rename_i n sz get bands most
  obtain ⟨rfl, hi, hn⟩ := hpre
  have hp := hi.pu
  simp only [Proofs.Tryz.f38]
  simp (maxSteps := 4000000) only [go_sem, ↓op_move, ↓op_assign, ↓op_pick, ↓op_alloc, ↓op_box, ↓op_build, ↓op_buildSlice, ↓op_load, ↓op_store, ↓op_nilCheck, ↓op_bin, ↓op_un, ↓op_convert, ↓op_makeFunc, ↓op_makeSlice, ↓op_slice, ↓op_fieldAddr, ↓op_field, ↓op_indexAddr, ↓op_index, ↓op_extract, ↓op_lookup, ↓op_mapUpdate, ↓op_makeMap, ↓op_range, ↓op_next, ↓op_call, ↓op_builtin, ↓g_tt, ↓g_ff, ↓g_tf, ↓g_ft, ↓g_tnt, ↓g_tnf, ↓g_fnt, ↓g_fnf, hp]
  exact ⟨⟨hi, hn⟩, isInts_fn _ hi.1, VEnt.of_eq rfl⟩

theorem rLayer_ok : Holds Proofs.Tryz.prog G0 43 layerC := by
  refine Holds.of_exC D43 Proofs.Tryz.func43 rfl foll (by kernel_rfl) (tab [(22, withinC), (41, firstC), (42, whenC), (70, intervalC), (iceKey 2, iceC)]) (tab_ok ⟨qRange_ok, qFirst_ok, qWhen_ok, rIv_ok, ice_holds, trivial⟩) G0_ok fun k0 rl args hpu hpre => ?_
  unfold layerC at hpre ⊢
  split at hpre
  rotate_left
  · exact hpre.elim
  rename_i th sp wx wy m sz g bands
  obtain ⟨rfl, hiv⟩ := hpre
  have hp := hiv.pu
  simp only [Proofs.Tryz.f43]
  simp (maxSteps := 4000000) only [go_sem, ↓op_move, ↓op_assign, ↓op_pick, ↓op_alloc, ↓op_box, ↓op_build, ↓op_buildSlice, ↓op_load, ↓op_store, ↓op_nilCheck, ↓op_bin, ↓op_un, ↓op_convert, ↓op_makeFunc, ↓op_makeSlice, ↓op_slice, ↓op_fieldAddr, ↓op_field, ↓op_indexAddr, ↓op_index, ↓op_extract, ↓op_lookup, ↓op_mapUpdate, ↓op_makeMap, ↓op_range, ↓op_next, ↓op_call, ↓op_builtin, ↓g_tt, ↓g_ff, ↓g_tf, ↓g_ft, ↓g_tnt, ↓g_tnf, ↓g_fnt, ↓g_fnf, hp]
  have he : layerE th sp wx wy m g bands = if layerE3 th sp wx wy m bands ≠ 0 then layerE3 th sp wx wy m bands else ivsE m g 1000 := layerE_alt th sp wx wy m g bands
  refine ⟨fun h => VEnt.of_eq ?_, fun h1 => ?_⟩
  · have h : layerE3 th sp wx wy m bands ≠ 0 := by simpa [layerE3] using h
    rw [he, if_pos h]; rfl
  · have h1 : layerE3 th sp wx wy m bands = 0 := by simpa [layerE3] using h1
    rw [h1] at he
    have he : layerE th sp wx wy m g bands = ivsE m g 1000 := he
    refine RestT.loopI (β := Nat) [4, 7, 43, 44, 45, 46, 47, 48, 49, 50, 51, 52, 53, 54, 55, 56, 57, 58] (fun i => [(6, .int .i64 i)]) (fun _ => fun _ => none) (fun i => i ≤ m ∧ layerE th sp wx wy m g bands = firstI (fun i => ivE (cell g i 0) (cell g i 1) 1000) i (m - i)) (fun i => m - i) 0 ⟨by omega, by simp [he, ivsE]⟩ ?_ HpLe.none ?_
    · simp (maxSteps := 4000000) only [go_sem, ↓op_move, ↓op_assign, ↓op_pick, ↓op_alloc, ↓op_box, ↓op_build, ↓op_buildSlice, ↓op_load, ↓op_store, ↓op_nilCheck, ↓op_bin, ↓op_un, ↓op_convert, ↓op_makeFunc, ↓op_makeSlice, ↓op_slice, ↓op_fieldAddr, ↓op_field, ↓op_indexAddr, ↓op_index, ↓op_extract, ↓op_lookup, ↓op_mapUpdate, ↓op_makeMap, ↓op_range, ↓op_next, ↓op_call, ↓op_builtin, ↓g_tt, ↓g_ff, ↓g_tf, ↓g_ft, ↓g_tnt, ↓g_tnf, ↓g_fnt, ↓g_fnf]
      try simp
    · intro ck i hck hI
      have hi := hI.1
      have hf := hI.2
      simp (maxSteps := 4000000) only [go_sem, ↓op_move, ↓op_assign, ↓op_pick, ↓op_alloc, ↓op_box, ↓op_build, ↓op_buildSlice, ↓op_load, ↓op_store, ↓op_nilCheck, ↓op_bin, ↓op_un, ↓op_convert, ↓op_makeFunc, ↓op_makeSlice, ↓op_slice, ↓op_fieldAddr, ↓op_field, ↓op_indexAddr, ↓op_index, ↓op_extract, ↓op_lookup, ↓op_mapUpdate, ↓op_makeMap, ↓op_range, ↓op_next, ↓op_call, ↓op_builtin, ↓g_tt, ↓g_ff, ↓g_tf, ↓g_ft, ↓g_tnt, ↓g_tnf, ↓g_fnt, ↓g_fnf]
      refine ⟨fun hlt => ?_, fun hge => ?_⟩
      · have hlt : i < m := by omega
        have hg := hiv.2 i hlt
        rw [firstI_step hlt] at hf
        simp (maxSteps := 4000000) only [go_sem, ↓op_move, ↓op_assign, ↓op_pick, ↓op_alloc, ↓op_box, ↓op_build, ↓op_buildSlice, ↓op_load, ↓op_store, ↓op_nilCheck, ↓op_bin, ↓op_un, ↓op_convert, ↓op_makeFunc, ↓op_makeSlice, ↓op_slice, ↓op_fieldAddr, ↓op_field, ↓op_indexAddr, ↓op_index, ↓op_extract, ↓op_lookup, ↓op_mapUpdate, ↓op_makeMap, ↓op_range, ↓op_next, ↓op_call, ↓op_builtin, ↓g_tt, ↓g_ff, ↓g_tf, ↓g_ft, ↓g_tnt, ↓g_tnf, ↓g_fnt, ↓g_fnf, hg]
        refine ⟨by omega, fun h => VEnt.of_eq ?_, fun h => ⟨inK_of (by have := hiv.1; omega) (by have := hiv.1; omega), by omega, i + 1, ⟨by omega, ?_⟩, by omega, .inr rfl, HpLe.none⟩⟩
        · simp at h
          rw [hf, if_pos h]
        · simp at h
          rw [hf, if_neg (by simpa using h)]
      · rw [hf, firstI_end (by omega)]
        exact VEnt.of_eq rfl

theorem rAir_ok : Holds Proofs.Tryz.prog G0 20 airC := by
  refine Holds.of_exC D20 Proofs.Tryz.func20 rfl foll (by kernel_rfl) (tab [(41, firstC), (42, whenC), (43, layerC)]) (tab_ok ⟨qFirst_ok, qWhen_ok, rLayer_ok, trivial⟩) G0_ok fun k0 rl args hpu hpre => ?_
  unfold airC at hpre ⊢
  split at hpre
  rotate_left
  · exact hpre.elim
  rename_i n sz get
  obtain ⟨rfl, hair⟩ := hpre
  have hp := hair.pu
  simp only [Proofs.Tryz.f20]
  simp (maxSteps := 4000000) only [go_sem, ↓op_move, ↓op_assign, ↓op_pick, ↓op_alloc, ↓op_box, ↓op_build, ↓op_buildSlice, ↓op_load, ↓op_store, ↓op_nilCheck, ↓op_bin, ↓op_un, ↓op_convert, ↓op_makeFunc, ↓op_makeSlice, ↓op_slice, ↓op_fieldAddr, ↓op_field, ↓op_indexAddr, ↓op_index, ↓op_extract, ↓op_lookup, ↓op_mapUpdate, ↓op_makeMap, ↓op_range, ↓op_next, ↓op_call, ↓op_builtin, ↓g_tt, ↓g_ff, ↓g_tf, ↓g_ft, ↓g_tnt, ↓g_tnf, ↓g_fnt, ↓g_fnf, hp]
  refine ⟨fun h => VEnt.of_eq ?_, fun h1 => ?_⟩
  · have h : airE0 n ≠ 0 := by simpa [airE0] using h
    simp only [airE, if_pos h]; rfl
  · have h1 : airE0 n = 0 := by simpa [airE0] using h1
    have he : airE n get = firstI (fun i => layAt get i (inN get 0 4)) 0 n := by simp only [airE, h1, ne_eq, not_true_eq_false, if_false]
    have hn0 := airE0_zero.1 h1
    obtain ⟨hg0, hiv0⟩ := hair.2 0 (by omega)
    have hp0 := hiv0.pu
    refine RestT.loopI (β := Nat) [2, 5, 19, 20, 21, 22, 23, 24, 25, 26, 27, 28, 29, 30, 31, 32, 33, 34, 35, 36, 37] (fun i => [(4, .int .i64 i)]) (fun _ => fun _ => none) (fun i => i ≤ n ∧ airE n get = firstI (fun i => layAt get i (inN get 0 4)) i (n - i)) (fun i => n - i) 0 ⟨by omega, by simp [he]⟩ ?_ HpLe.none ?_
    · simp (maxSteps := 4000000) only [go_sem, ↓op_move, ↓op_assign, ↓op_pick, ↓op_alloc, ↓op_box, ↓op_build, ↓op_buildSlice, ↓op_load, ↓op_store, ↓op_nilCheck, ↓op_bin, ↓op_un, ↓op_convert, ↓op_makeFunc, ↓op_makeSlice, ↓op_slice, ↓op_fieldAddr, ↓op_field, ↓op_indexAddr, ↓op_index, ↓op_extract, ↓op_lookup, ↓op_mapUpdate, ↓op_makeMap, ↓op_range, ↓op_next, ↓op_call, ↓op_builtin, ↓g_tt, ↓g_ff, ↓g_tf, ↓g_ft, ↓g_tnt, ↓g_tnf, ↓g_fnt, ↓g_fnf]
      try simp
    · intro ck i hck hI
      have hi := hI.1
      have hf := hI.2
      simp (maxSteps := 4000000) only [go_sem, ↓op_move, ↓op_assign, ↓op_pick, ↓op_alloc, ↓op_box, ↓op_build, ↓op_buildSlice, ↓op_load, ↓op_store, ↓op_nilCheck, ↓op_bin, ↓op_un, ↓op_convert, ↓op_makeFunc, ↓op_makeSlice, ↓op_slice, ↓op_fieldAddr, ↓op_field, ↓op_indexAddr, ↓op_index, ↓op_extract, ↓op_lookup, ↓op_mapUpdate, ↓op_makeMap, ↓op_range, ↓op_next, ↓op_call, ↓op_builtin, ↓g_tt, ↓g_ff, ↓g_tf, ↓g_ft, ↓g_tnt, ↓g_tnf, ↓g_fnt, ↓g_fnf]
      refine ⟨fun hlt => ?_, fun hge => ?_⟩
      · have hlt : i < n := by omega
        obtain ⟨hg, hiv⟩ := hair.2 i hlt
        have hp2 := hiv.pu
        rw [firstI_step hlt] at hf
        simp (maxSteps := 4000000) only [go_sem, ↓op_move, ↓op_assign, ↓op_pick, ↓op_alloc, ↓op_box, ↓op_build, ↓op_buildSlice, ↓op_load, ↓op_store, ↓op_nilCheck, ↓op_bin, ↓op_un, ↓op_convert, ↓op_makeFunc, ↓op_makeSlice, ↓op_slice, ↓op_fieldAddr, ↓op_field, ↓op_indexAddr, ↓op_index, ↓op_extract, ↓op_lookup, ↓op_mapUpdate, ↓op_makeMap, ↓op_range, ↓op_next, ↓op_call, ↓op_builtin, ↓g_tt, ↓g_ff, ↓g_tf, ↓g_ft, ↓g_tnt, ↓g_tnf, ↓g_fnt, ↓g_fnf, hg, hg0, hp2, hp0]
        refine ⟨by omega, ⟨by omega, by omega⟩, hiv, fun h => VEnt.of_eq ?_, fun h => ⟨inK_of (by omega) (by omega), by omega, i + 1, ⟨by omega, ?_⟩, by omega, .inr rfl, HpLe.none⟩⟩
        · have h : layAt get i (inN get 0 4) ≠ 0 := by simpa [layAt] using h
          rw [hf, if_pos h]; rfl
        · have h : layAt get i (inN get 0 4) = 0 := by simpa [layAt] using h
          rw [hf, if_neg (by simpa using h)]
      · rw [hf, firstI_end (by omega)]
        exact VEnt.of_eq rfl
end Go.Fly.Tryz
