/- First errors, ranges, points. -/
import Derived.Test.YtmlknpghkclffaaGreatDoorSYAEn
set_option linter.unusedSimpArgs false
set_option linter.unusedVariables false
set_option maxRecDepth 100000
namespace Go.Fly.Tryz
open Go

theorem aWhen_ok : Holds Proofs.Tryz.prog G0 86 whenC := by
  refine Holds.of_exC D86 Proofs.Tryz.func86 rfl foll (by kernel_rfl) (tab []) (tab_ok trivial) G0_ok fun k0 rl args hpu hpre => ?_
  unfold whenC at hpre ⊢
  split at hpre
  rotate_left
  · exact hpre.elim
  simp only [Proofs.Tryz.f86]
  simp (maxSteps := 4000000) only [go_sem, ↓op_move, ↓op_assign, ↓op_pick, ↓op_alloc, ↓op_box, ↓op_build, ↓op_buildSlice, ↓op_load, ↓op_store, ↓op_nilCheck, ↓op_bin, ↓op_un, ↓op_convert, ↓op_makeFunc, ↓op_makeSlice, ↓op_slice, ↓op_fieldAddr, ↓op_field, ↓op_indexAddr, ↓op_index, ↓op_extract, ↓op_lookup, ↓op_mapUpdate, ↓op_makeMap, ↓op_range, ↓op_next, ↓op_call, ↓op_builtin, ↓g_tt, ↓g_ff, ↓g_tf, ↓g_ft, ↓g_tnt, ↓g_tnf, ↓g_fnt, ↓g_fnf]
  exact ⟨fun h => VEnt.of_eq (by simp [h, err]), fun h => VEnt.of_eq (by simp [h, err])⟩

theorem qWhen_ok : Holds Proofs.Tryz.prog G0 81 whenC := by
  refine Holds.of_exC D81 Proofs.Tryz.func81 rfl foll (by kernel_rfl) (tab []) (tab_ok trivial) G0_ok fun k0 rl args hpu hpre => ?_
  unfold whenC at hpre ⊢
  split at hpre
  rotate_left
  · exact hpre.elim
  simp only [Proofs.Tryz.f81]
  simp (maxSteps := 4000000) only [go_sem, ↓op_move, ↓op_assign, ↓op_pick, ↓op_alloc, ↓op_box, ↓op_build, ↓op_buildSlice, ↓op_load, ↓op_store, ↓op_nilCheck, ↓op_bin, ↓op_un, ↓op_convert, ↓op_makeFunc, ↓op_makeSlice, ↓op_slice, ↓op_fieldAddr, ↓op_field, ↓op_indexAddr, ↓op_index, ↓op_extract, ↓op_lookup, ↓op_mapUpdate, ↓op_makeMap, ↓op_range, ↓op_next, ↓op_call, ↓op_builtin, ↓g_tt, ↓g_ff, ↓g_tf, ↓g_ft, ↓g_tnt, ↓g_tnf, ↓g_fnt, ↓g_fnf]
  exact ⟨fun h => VEnt.of_eq (by simp [h, err]), fun h => VEnt.of_eq (by simp [h, err])⟩

theorem aWithin_ok : Holds Proofs.Tryz.prog G0 84 withinC := by
  refine Holds.of_exC D84 Proofs.Tryz.func84 rfl foll (by kernel_rfl) (tab [(86, whenC)]) (tab_ok ⟨aWhen_ok, trivial⟩) G0_ok fun k0 rl args hpu hpre => ?_
  unfold withinC at hpre ⊢
  split at hpre
  rotate_left
  · exact hpre.elim
  simp only [Proofs.Tryz.f84]
  simp (maxSteps := 4000000) only [go_sem, ↓op_move, ↓op_assign, ↓op_pick, ↓op_alloc, ↓op_box, ↓op_build, ↓op_buildSlice, ↓op_load, ↓op_store, ↓op_nilCheck, ↓op_bin, ↓op_un, ↓op_convert, ↓op_makeFunc, ↓op_makeSlice, ↓op_slice, ↓op_fieldAddr, ↓op_field, ↓op_indexAddr, ↓op_index, ↓op_extract, ↓op_lookup, ↓op_mapUpdate, ↓op_makeMap, ↓op_range, ↓op_next, ↓op_call, ↓op_builtin, ↓g_tt, ↓g_ff, ↓g_tf, ↓g_ft, ↓g_tnt, ↓g_tnf, ↓g_fnt, ↓g_fnf]
  exact ⟨fun h => VEnt.of_eq (by simp [h, err, rng]), fun h => VEnt.of_eq (by simp [h, err, rng])⟩

theorem qRange_ok : Holds Proofs.Tryz.prog G0 23 withinC := by
  refine Holds.of_exC D23 Proofs.Tryz.func23 rfl foll (by kernel_rfl) (tab [(81, whenC)]) (tab_ok ⟨qWhen_ok, trivial⟩) G0_ok fun k0 rl args hpu hpre => ?_
  unfold withinC at hpre ⊢
  split at hpre
  rotate_left
  · exact hpre.elim
  simp only [Proofs.Tryz.f23]
  simp (maxSteps := 4000000) only [go_sem, ↓op_move, ↓op_assign, ↓op_pick, ↓op_alloc, ↓op_box, ↓op_build, ↓op_buildSlice, ↓op_load, ↓op_store, ↓op_nilCheck, ↓op_bin, ↓op_un, ↓op_convert, ↓op_makeFunc, ↓op_makeSlice, ↓op_slice, ↓op_fieldAddr, ↓op_field, ↓op_indexAddr, ↓op_index, ↓op_extract, ↓op_lookup, ↓op_mapUpdate, ↓op_makeMap, ↓op_range, ↓op_next, ↓op_call, ↓op_builtin, ↓g_tt, ↓g_ff, ↓g_tf, ↓g_ft, ↓g_tnt, ↓g_tnf, ↓g_fnt, ↓g_fnf]
  exact ⟨fun h => VEnt.of_eq (by simp [h, err, rng]), fun h => VEnt.of_eq (by simp [h, err, rng])⟩

theorem aFirst_ok : Holds Proofs.Tryz.prog G0 83 firstC := by
  refine Holds.of_exC D83 Proofs.Tryz.func83 rfl foll (by kernel_rfl) (tab []) (tab_ok trivial) G0_ok fun k0 rl args hpu hpre => ?_
  unfold firstC at hpre ⊢
  split at hpre
  rotate_left
  · exact hpre.elim
  rename_i n sz get
  obtain ⟨rfl, hn, hget⟩ := hpre
  simp only [Proofs.Tryz.f83]
  simp (maxSteps := 4000000) only [go_sem, ↓op_move, ↓op_assign, ↓op_pick, ↓op_alloc, ↓op_box, ↓op_build, ↓op_buildSlice, ↓op_load, ↓op_store, ↓op_nilCheck, ↓op_bin, ↓op_un, ↓op_convert, ↓op_makeFunc, ↓op_makeSlice, ↓op_slice, ↓op_fieldAddr, ↓op_field, ↓op_indexAddr, ↓op_index, ↓op_extract, ↓op_lookup, ↓op_mapUpdate, ↓op_makeMap, ↓op_range, ↓op_next, ↓op_call, ↓op_builtin, ↓g_tt, ↓g_ff, ↓g_tf, ↓g_ft, ↓g_tnt, ↓g_tnf, ↓g_fnt, ↓g_fnf]
  refine RestT.loopI (β := Nat) [2, 4, 8, 9, 10, 11, 12, 13, 14] (fun i => [(7, .int .i64 i)]) (fun _ => fun _ => none) (fun i => i ≤ n ∧ firstI (intAt get) 0 n = firstI (intAt get) i (n - i)) (fun i => n - i) 0 ⟨by omega, by simp⟩ ?_ HpLe.none ?_
  · simp (maxSteps := 4000000) only [go_sem, ↓op_move, ↓op_assign, ↓op_pick, ↓op_alloc, ↓op_box, ↓op_build, ↓op_buildSlice, ↓op_load, ↓op_store, ↓op_nilCheck, ↓op_bin, ↓op_un, ↓op_convert, ↓op_makeFunc, ↓op_makeSlice, ↓op_slice, ↓op_fieldAddr, ↓op_field, ↓op_indexAddr, ↓op_index, ↓op_extract, ↓op_lookup, ↓op_mapUpdate, ↓op_makeMap, ↓op_range, ↓op_next, ↓op_call, ↓op_builtin, ↓g_tt, ↓g_ff, ↓g_tf, ↓g_ft, ↓g_tnt, ↓g_tnf, ↓g_fnt, ↓g_fnf]
    try simp
  · intro ck i hck hI
    have hi := hI.1
    have hf := hI.2
    simp (maxSteps := 4000000) only [go_sem, ↓op_move, ↓op_assign, ↓op_pick, ↓op_alloc, ↓op_box, ↓op_build, ↓op_buildSlice, ↓op_load, ↓op_store, ↓op_nilCheck, ↓op_bin, ↓op_un, ↓op_convert, ↓op_makeFunc, ↓op_makeSlice, ↓op_slice, ↓op_fieldAddr, ↓op_field, ↓op_indexAddr, ↓op_index, ↓op_extract, ↓op_lookup, ↓op_mapUpdate, ↓op_makeMap, ↓op_range, ↓op_next, ↓op_call, ↓op_builtin, ↓g_tt, ↓g_ff, ↓g_tf, ↓g_ft, ↓g_tnt, ↓g_tnf, ↓g_fnt, ↓g_fnf]
    refine ⟨fun hlt => ?_, fun hge => ?_⟩
    · have hlt : i < n := by omega
      have hg := hget i hlt
      rw [firstI_step hlt] at hf
      simp (maxSteps := 4000000) only [go_sem, ↓op_move, ↓op_assign, ↓op_pick, ↓op_alloc, ↓op_box, ↓op_build, ↓op_buildSlice, ↓op_load, ↓op_store, ↓op_nilCheck, ↓op_bin, ↓op_un, ↓op_convert, ↓op_makeFunc, ↓op_makeSlice, ↓op_slice, ↓op_fieldAddr, ↓op_field, ↓op_indexAddr, ↓op_index, ↓op_extract, ↓op_lookup, ↓op_mapUpdate, ↓op_makeMap, ↓op_range, ↓op_next, ↓op_call, ↓op_builtin, ↓g_tt, ↓g_ff, ↓g_tf, ↓g_ft, ↓g_tnt, ↓g_tnf, ↓g_fnt, ↓g_fnf, hg]
      refine ⟨by omega, fun h => VEnt.of_eq ?_, fun h => ⟨inK_of (by omega) (by omega), i + 1, ⟨by omega, ?_⟩, by omega, .inr rfl, HpLe.none⟩⟩
      · simp at h
        rw [hf, if_pos h]
      · simp at h
        rw [hf, if_neg (by simpa using h)]
    · rw [hf, firstI_end (by omega)]
      exact VEnt.of_eq rfl

theorem qFirst_ok : Holds Proofs.Tryz.prog G0 22 firstC := by
  refine Holds.of_exC D22 Proofs.Tryz.func22 rfl foll (by kernel_rfl) (tab []) (tab_ok trivial) G0_ok fun k0 rl args hpu hpre => ?_
  unfold firstC at hpre ⊢
  split at hpre
  rotate_left
  · exact hpre.elim
  rename_i n sz get
  obtain ⟨rfl, hn, hget⟩ := hpre
  simp only [Proofs.Tryz.f22]
  simp (maxSteps := 4000000) only [go_sem, ↓op_move, ↓op_assign, ↓op_pick, ↓op_alloc, ↓op_box, ↓op_build, ↓op_buildSlice, ↓op_load, ↓op_store, ↓op_nilCheck, ↓op_bin, ↓op_un, ↓op_convert, ↓op_makeFunc, ↓op_makeSlice, ↓op_slice, ↓op_fieldAddr, ↓op_field, ↓op_indexAddr, ↓op_index, ↓op_extract, ↓op_lookup, ↓op_mapUpdate, ↓op_makeMap, ↓op_range, ↓op_next, ↓op_call, ↓op_builtin, ↓g_tt, ↓g_ff, ↓g_tf, ↓g_ft, ↓g_tnt, ↓g_tnf, ↓g_fnt, ↓g_fnf]
  refine RestT.loopI (β := Nat) [2, 4, 5, 6, 7, 8, 9, 10, 11, 12, 13, 14, 15, 16, 17, 18] (fun i => [(3, .int .i64 i)]) (fun _ => fun _ => none) (fun i => i ≤ n ∧ firstI (intAt get) 0 n = firstI (intAt get) i (n - i)) (fun i => n - i) 0 ⟨by omega, by simp⟩ ?_ HpLe.none ?_
  · simp (maxSteps := 4000000) only [go_sem, ↓op_move, ↓op_assign, ↓op_pick, ↓op_alloc, ↓op_box, ↓op_build, ↓op_buildSlice, ↓op_load, ↓op_store, ↓op_nilCheck, ↓op_bin, ↓op_un, ↓op_convert, ↓op_makeFunc, ↓op_makeSlice, ↓op_slice, ↓op_fieldAddr, ↓op_field, ↓op_indexAddr, ↓op_index, ↓op_extract, ↓op_lookup, ↓op_mapUpdate, ↓op_makeMap, ↓op_range, ↓op_next, ↓op_call, ↓op_builtin, ↓g_tt, ↓g_ff, ↓g_tf, ↓g_ft, ↓g_tnt, ↓g_tnf, ↓g_fnt, ↓g_fnf]
    try simp
  · intro ck i hck hI
    have hi := hI.1
    have hf := hI.2
    simp (maxSteps := 4000000) only [go_sem, ↓op_move, ↓op_assign, ↓op_pick, ↓op_alloc, ↓op_box, ↓op_build, ↓op_buildSlice, ↓op_load, ↓op_store, ↓op_nilCheck, ↓op_bin, ↓op_un, ↓op_convert, ↓op_makeFunc, ↓op_makeSlice, ↓op_slice, ↓op_fieldAddr, ↓op_field, ↓op_indexAddr, ↓op_index, ↓op_extract, ↓op_lookup, ↓op_mapUpdate, ↓op_makeMap, ↓op_range, ↓op_next, ↓op_call, ↓op_builtin, ↓g_tt, ↓g_ff, ↓g_tf, ↓g_ft, ↓g_tnt, ↓g_tnf, ↓g_fnt, ↓g_fnf]
    refine ⟨fun hlt => ?_, fun hge => ?_⟩
    · have hlt : i < n := by omega
      have hg := hget i hlt
      rw [firstI_step hlt] at hf
      simp (maxSteps := 4000000) only [go_sem, ↓op_move, ↓op_assign, ↓op_pick, ↓op_alloc, ↓op_box, ↓op_build, ↓op_buildSlice, ↓op_load, ↓op_store, ↓op_nilCheck, ↓op_bin, ↓op_un, ↓op_convert, ↓op_makeFunc, ↓op_makeSlice, ↓op_slice, ↓op_fieldAddr, ↓op_field, ↓op_indexAddr, ↓op_index, ↓op_extract, ↓op_lookup, ↓op_mapUpdate, ↓op_makeMap, ↓op_range, ↓op_next, ↓op_call, ↓op_builtin, ↓g_tt, ↓g_ff, ↓g_tf, ↓g_ft, ↓g_tnt, ↓g_tnf, ↓g_fnt, ↓g_fnf, hg]
      refine ⟨by omega, fun h => ⟨by omega, VEnt.of_eq ?_⟩, fun h => ⟨inK_of (by omega) (by omega), i + 1, ⟨by omega, ?_⟩, by omega, .inr rfl, HpLe.none⟩⟩
      · simp at h
        rw [hf, if_pos h]
      · simp at h
        rw [hf, if_neg (by simpa using h)]
    · rw [hf, firstI_end (by omega)]
      exact VEnt.of_eq rfl

theorem aPoint_ok : Holds Proofs.Tryz.prog G0 104 (pointC 10000 10000) := by
  refine Holds.of_exC D104 Proofs.Tryz.func104 rfl foll (by kernel_rfl) (tab [(83, firstC), (84, withinC), (iceKey 1, iceC)]) (tab_ok ⟨aFirst_ok, aWithin_ok, ice_holds, trivial⟩) G0_ok fun k0 rl args hpu hpre => ?_
  unfold pointC at hpre ⊢
  split at hpre
  rotate_left
  · exact hpre.elim
  simp only [Proofs.Tryz.f104]
  simp (maxSteps := 4000000) only [go_sem, ↓op_move, ↓op_assign, ↓op_pick, ↓op_alloc, ↓op_box, ↓op_build, ↓op_buildSlice, ↓op_load, ↓op_store, ↓op_nilCheck, ↓op_bin, ↓op_un, ↓op_convert, ↓op_makeFunc, ↓op_makeSlice, ↓op_slice, ↓op_fieldAddr, ↓op_field, ↓op_indexAddr, ↓op_index, ↓op_extract, ↓op_lookup, ↓op_mapUpdate, ↓op_makeMap, ↓op_range, ↓op_next, ↓op_call, ↓op_builtin, ↓g_tt, ↓g_ff, ↓g_tf, ↓g_ft, ↓g_tnt, ↓g_tnf, ↓g_fnt, ↓g_fnf]
  exact VEnt.of_eq rfl

theorem aIv_ok : Holds Proofs.Tryz.prog G0 113 intervalC := by
  refine Holds.of_exC D113 Proofs.Tryz.func113 rfl foll (by kernel_rfl) (tab [(83, firstC), (84, withinC), (86, whenC), (iceKey 2, iceC)]) (tab_ok ⟨aFirst_ok, aWithin_ok, aWhen_ok, ice_holds, trivial⟩) G0_ok fun k0 rl args hpu hpre => ?_
  unfold intervalC at hpre ⊢
  split at hpre
  rotate_left
  · exact hpre.elim
  simp only [Proofs.Tryz.f113]
  simp (maxSteps := 4000000) only [go_sem, ↓op_move, ↓op_assign, ↓op_pick, ↓op_alloc, ↓op_box, ↓op_build, ↓op_buildSlice, ↓op_load, ↓op_store, ↓op_nilCheck, ↓op_bin, ↓op_un, ↓op_convert, ↓op_makeFunc, ↓op_makeSlice, ↓op_slice, ↓op_fieldAddr, ↓op_field, ↓op_indexAddr, ↓op_index, ↓op_extract, ↓op_lookup, ↓op_mapUpdate, ↓op_makeMap, ↓op_range, ↓op_next, ↓op_call, ↓op_builtin, ↓g_tt, ↓g_ff, ↓g_tf, ↓g_ft, ↓g_tnt, ↓g_tnf, ↓g_fnt, ↓g_fnf]
  exact VEnt.of_eq rfl

theorem rIv_ok : Holds Proofs.Tryz.prog G0 115 intervalC := by
  refine Holds.of_exC D115 Proofs.Tryz.func115 rfl foll (by kernel_rfl) (tab [(22, firstC), (23, withinC), (81, whenC), (iceKey 2, iceC)]) (tab_ok ⟨qFirst_ok, qRange_ok, qWhen_ok, ice_holds, trivial⟩) G0_ok fun k0 rl args hpu hpre => ?_
  unfold intervalC at hpre ⊢
  split at hpre
  rotate_left
  · exact hpre.elim
  simp only [Proofs.Tryz.f115]
  simp (maxSteps := 4000000) only [go_sem, ↓op_move, ↓op_assign, ↓op_pick, ↓op_alloc, ↓op_box, ↓op_build, ↓op_buildSlice, ↓op_load, ↓op_store, ↓op_nilCheck, ↓op_bin, ↓op_un, ↓op_convert, ↓op_makeFunc, ↓op_makeSlice, ↓op_slice, ↓op_fieldAddr, ↓op_field, ↓op_indexAddr, ↓op_index, ↓op_extract, ↓op_lookup, ↓op_mapUpdate, ↓op_makeMap, ↓op_range, ↓op_next, ↓op_call, ↓op_builtin, ↓g_tt, ↓g_ff, ↓g_tf, ↓g_ft, ↓g_tnt, ↓g_tnf, ↓g_fnt, ↓g_fnf]
  exact VEnt.of_eq rfl

theorem aIv1_ok : Holds Proofs.Tryz.prog G0 145 (ivC 1000) := by
  refine Holds.of_exC D145 Proofs.Tryz.func145 rfl foll (by kernel_rfl) (tab [(113, intervalC), (iceKey 1, iceC)]) (tab_ok ⟨aIv_ok, ice_holds, trivial⟩) G0_ok fun k0 rl args hpu hpre => ?_
  unfold ivC at hpre ⊢
  split at hpre
  rotate_left
  · exact hpre.elim
  simp only [Proofs.Tryz.f145]
  simp (maxSteps := 4000000) only [go_sem, ↓op_move, ↓op_assign, ↓op_pick, ↓op_alloc, ↓op_box, ↓op_build, ↓op_buildSlice, ↓op_load, ↓op_store, ↓op_nilCheck, ↓op_bin, ↓op_un, ↓op_convert, ↓op_makeFunc, ↓op_makeSlice, ↓op_slice, ↓op_fieldAddr, ↓op_field, ↓op_indexAddr, ↓op_index, ↓op_extract, ↓op_lookup, ↓op_mapUpdate, ↓op_makeMap, ↓op_range, ↓op_next, ↓op_call, ↓op_builtin, ↓g_tt, ↓g_ff, ↓g_tf, ↓g_ft, ↓g_tnt, ↓g_tnf, ↓g_fnt, ↓g_fnf]
  exact VEnt.of_eq rfl

theorem aIv2_ok : Holds Proofs.Tryz.prog G0 112 (ivC 10000000000000) := by
  refine Holds.of_exC D112 Proofs.Tryz.func112 rfl foll (by kernel_rfl) (tab [(113, intervalC), (iceKey 1, iceC)]) (tab_ok ⟨aIv_ok, ice_holds, trivial⟩) G0_ok fun k0 rl args hpu hpre => ?_
  unfold ivC at hpre ⊢
  split at hpre
  rotate_left
  · exact hpre.elim
  simp only [Proofs.Tryz.f112]
  simp (maxSteps := 4000000) only [go_sem, ↓op_move, ↓op_assign, ↓op_pick, ↓op_alloc, ↓op_box, ↓op_build, ↓op_buildSlice, ↓op_load, ↓op_store, ↓op_nilCheck, ↓op_bin, ↓op_un, ↓op_convert, ↓op_makeFunc, ↓op_makeSlice, ↓op_slice, ↓op_fieldAddr, ↓op_field, ↓op_indexAddr, ↓op_index, ↓op_extract, ↓op_lookup, ↓op_mapUpdate, ↓op_makeMap, ↓op_range, ↓op_next, ↓op_call, ↓op_builtin, ↓g_tt, ↓g_ff, ↓g_tf, ↓g_ft, ↓g_tnt, ↓g_tnf, ↓g_fnt, ↓g_fnf]
  exact VEnt.of_eq rfl
end Go.Fly.Tryz
