/- First errors, ranges, points. -/
import Derived.Test.YtfpoimbidpojnaaDoorSYEEn
set_option linter.unusedSimpArgs false
set_option linter.unusedVariables false
set_option maxRecDepth 100000
namespace Go.Fly.Tryd
open Go

theorem aWhen_ok : Holds Proofs.Tryd.prog G0 47 whenC := by
  refine Holds.of_exC D47 Proofs.Tryd.func47 rfl foll (by kernel_rfl) (tab []) (tab_ok trivial) G0_ok fun k0 rl args hpu hpre => ?_
  unfold whenC at hpre ⊢
  split at hpre
  rotate_left
  · exact hpre.elim
  simp only [Proofs.Tryd.f47]
  simp (maxSteps := 4000000) only [go_sem, ↓op_move, ↓op_assign, ↓op_pick, ↓op_alloc, ↓op_box, ↓op_build, ↓op_buildSlice, ↓op_load, ↓op_store, ↓op_nilCheck, ↓op_bin, ↓op_un, ↓op_convert, ↓op_makeFunc, ↓op_makeSlice, ↓op_slice, ↓op_fieldAddr, ↓op_field, ↓op_indexAddr, ↓op_index, ↓op_extract, ↓op_lookup, ↓op_mapUpdate, ↓op_makeMap, ↓op_range, ↓op_next, ↓op_call, ↓op_builtin, ↓g_tt, ↓g_ff, ↓g_tf, ↓g_ft, ↓g_tnt, ↓g_tnf, ↓g_fnt, ↓g_fnf]
  exact ⟨fun h => VEnt.of_eq (by simp [h, err]), fun h => VEnt.of_eq (by simp [h, err])⟩

theorem qWhen_ok : Holds Proofs.Tryd.prog G0 43 whenC := by
  refine Holds.of_exC D43 Proofs.Tryd.func43 rfl foll (by kernel_rfl) (tab []) (tab_ok trivial) G0_ok fun k0 rl args hpu hpre => ?_
  unfold whenC at hpre ⊢
  split at hpre
  rotate_left
  · exact hpre.elim
  simp only [Proofs.Tryd.f43]
  simp (maxSteps := 4000000) only [go_sem, ↓op_move, ↓op_assign, ↓op_pick, ↓op_alloc, ↓op_box, ↓op_build, ↓op_buildSlice, ↓op_load, ↓op_store, ↓op_nilCheck, ↓op_bin, ↓op_un, ↓op_convert, ↓op_makeFunc, ↓op_makeSlice, ↓op_slice, ↓op_fieldAddr, ↓op_field, ↓op_indexAddr, ↓op_index, ↓op_extract, ↓op_lookup, ↓op_mapUpdate, ↓op_makeMap, ↓op_range, ↓op_next, ↓op_call, ↓op_builtin, ↓g_tt, ↓g_ff, ↓g_tf, ↓g_ft, ↓g_tnt, ↓g_tnf, ↓g_fnt, ↓g_fnf]
  exact ⟨fun h => VEnt.of_eq (by simp [h, err]), fun h => VEnt.of_eq (by simp [h, err])⟩

theorem aWithin_ok : Holds Proofs.Tryd.prog G0 66 withinC := by
  refine Holds.of_exC D66 Proofs.Tryd.func66 rfl foll (by kernel_rfl) (tab [(47, whenC)]) (tab_ok ⟨aWhen_ok, trivial⟩) G0_ok fun k0 rl args hpu hpre => ?_
  unfold withinC at hpre ⊢
  split at hpre
  rotate_left
  · exact hpre.elim
  simp only [Proofs.Tryd.f66]
  simp (maxSteps := 4000000) only [go_sem, ↓op_move, ↓op_assign, ↓op_pick, ↓op_alloc, ↓op_box, ↓op_build, ↓op_buildSlice, ↓op_load, ↓op_store, ↓op_nilCheck, ↓op_bin, ↓op_un, ↓op_convert, ↓op_makeFunc, ↓op_makeSlice, ↓op_slice, ↓op_fieldAddr, ↓op_field, ↓op_indexAddr, ↓op_index, ↓op_extract, ↓op_lookup, ↓op_mapUpdate, ↓op_makeMap, ↓op_range, ↓op_next, ↓op_call, ↓op_builtin, ↓g_tt, ↓g_ff, ↓g_tf, ↓g_ft, ↓g_tnt, ↓g_tnf, ↓g_fnt, ↓g_fnf]
  exact ⟨fun h => VEnt.of_eq (by simp [h, err, rng]), fun h => VEnt.of_eq (by simp [h, err, rng])⟩

theorem qRange_ok : Holds Proofs.Tryd.prog G0 21 withinC := by
  refine Holds.of_exC D21 Proofs.Tryd.func21 rfl foll (by kernel_rfl) (tab [(43, whenC)]) (tab_ok ⟨qWhen_ok, trivial⟩) G0_ok fun k0 rl args hpu hpre => ?_
  unfold withinC at hpre ⊢
  split at hpre
  rotate_left
  · exact hpre.elim
  simp only [Proofs.Tryd.f21]
  simp (maxSteps := 4000000) only [go_sem, ↓op_move, ↓op_assign, ↓op_pick, ↓op_alloc, ↓op_box, ↓op_build, ↓op_buildSlice, ↓op_load, ↓op_store, ↓op_nilCheck, ↓op_bin, ↓op_un, ↓op_convert, ↓op_makeFunc, ↓op_makeSlice, ↓op_slice, ↓op_fieldAddr, ↓op_field, ↓op_indexAddr, ↓op_index, ↓op_extract, ↓op_lookup, ↓op_mapUpdate, ↓op_makeMap, ↓op_range, ↓op_next, ↓op_call, ↓op_builtin, ↓g_tt, ↓g_ff, ↓g_tf, ↓g_ft, ↓g_tnt, ↓g_tnf, ↓g_fnt, ↓g_fnf]
  exact ⟨fun h => VEnt.of_eq (by simp [h, err, rng]), fun h => VEnt.of_eq (by simp [h, err, rng])⟩

theorem aFirst_ok : Holds Proofs.Tryd.prog G0 46 firstC := by
  refine Holds.of_exC D46 Proofs.Tryd.func46 rfl foll (by kernel_rfl) (tab []) (tab_ok trivial) G0_ok fun k0 rl args hpu hpre => ?_
  unfold firstC at hpre ⊢
  split at hpre
  rotate_left
  · exact hpre.elim
  rename_i n sz get
  obtain ⟨rfl, hn, hget⟩ := hpre
  simp only [Proofs.Tryd.f46]
  simp (maxSteps := 4000000) only [go_sem, ↓op_move, ↓op_assign, ↓op_pick, ↓op_alloc, ↓op_box, ↓op_build, ↓op_buildSlice, ↓op_load, ↓op_store, ↓op_nilCheck, ↓op_bin, ↓op_un, ↓op_convert, ↓op_makeFunc, ↓op_makeSlice, ↓op_slice, ↓op_fieldAddr, ↓op_field, ↓op_indexAddr, ↓op_index, ↓op_extract, ↓op_lookup, ↓op_mapUpdate, ↓op_makeMap, ↓op_range, ↓op_next, ↓op_call, ↓op_builtin, ↓g_tt, ↓g_ff, ↓g_tf, ↓g_ft, ↓g_tnt, ↓g_tnf, ↓g_fnt, ↓g_fnf]
  refine RestT.loopI (β := Nat) [2, 4, 8, 9, 10, 11, 12, 13, 14] (fun i => [(7, .int .i64 i)]) (fun _ => fun _ => none) (fun i => i ≤ n ∧ firstI (intAt get) 0 n = firstI (intAt get) i (n - i)) (fun i => n - i) 0 ⟨by omega, by simp⟩ ?_ HpLe.none ?_
  · simp (maxSteps := 4000000) only [go_sem, ↓op_move, ↓op_assign, ↓op_pick, ↓op_alloc, ↓op_box, ↓op_build, ↓op_buildSlice, ↓op_load, ↓op_store, ↓op_nilCheck, ↓op_bin, ↓op_un, ↓op_convert, ↓op_makeFunc, ↓op_makeSlice, ↓op_slice, ↓op_fieldAddr, ↓op_field, ↓op_indexAddr, ↓op_index, ↓op_extract, ↓op_lookup, ↓op_mapUpdate, ↓op_makeMap, ↓op_range, ↓op_next, ↓op_call, ↓op_builtin, ↓g_tt, ↓g_ff, ↓g_tf, ↓g_ft, ↓g_tnt, ↓g_tnf, ↓g_fnt, ↓g_fnf]
    try simp
  · intro ck i hck hI
    have hi := hI.1
    have hf := hI.2
    simp (maxSteps := 4000000) only [go_sem, ↓op_move, ↓op_assign, ↓op_pick, ↓op_alloc, ↓op_box, ↓op_build, ↓op_buildSlice, ↓op_load, ↓op_store, ↓op_nilCheck, ↓op_bin, ↓op_un, ↓op_convert, ↓op_makeFunc, ↓op_makeSlice, ↓op_slice, ↓op_fieldAddr, ↓op_field, ↓op_indexAddr, ↓op_index, ↓op_extract, ↓op_lookup, ↓op_mapUpdate, ↓op_makeMap, ↓op_range, ↓op_next, ↓op_call, ↓op_builtin, ↓g_tt, ↓g_ff, ↓g_tf, ↓g_ft, ↓g_tnt, ↓g_tnf, ↓g_fnt, ↓g_fnf]
    refine ⟨fun hlt => ?_, fun hge => ?_⟩
    · have hlt : i < n := by omega
      have hg := hget i hlt
      rw [firstI_step hlt] at hf
      simp (maxSteps := 4000000) only [go_sem, ↓op_move, ↓op_assign, ↓op_pick, ↓op_alloc, ↓op_box, ↓op_build, ↓op_buildSlice, ↓op_load, ↓op_store, ↓op_nilCheck, ↓op_bin, ↓op_un, ↓op_convert, ↓op_makeFunc, ↓op_makeSlice, ↓op_slice, ↓op_fieldAddr, ↓op_field, ↓op_indexAddr, ↓op_index, ↓op_extract, ↓op_lookup, ↓op_mapUpdate, ↓op_makeMap, ↓op_range, ↓op_next, ↓op_call, ↓op_builtin, ↓g_tt, ↓g_ff, ↓g_tf, ↓g_ft, ↓g_tnt, ↓g_tnf, ↓g_fnt, ↓g_fnf, hg]
      refine ⟨by omega, fun h => VEnt.of_eq ?_, fun h => ⟨inK_of (by omega) (by omega), i + 1, ⟨by omega, ?_⟩, by omega, .inr rfl, HpLe.none⟩⟩
      · simp at h
        rw [hf, if_pos h]
      · simp at h
        rw [hf, if_neg (by simpa using h)]
    · rw [hf, firstI_end (by omega)]
      exact VEnt.of_eq rfl

theorem qFirst_ok : Holds Proofs.Tryd.prog G0 42 firstC := by
  refine Holds.of_exC D42 Proofs.Tryd.func42 rfl foll (by kernel_rfl) (tab []) (tab_ok trivial) G0_ok fun k0 rl args hpu hpre => ?_
  unfold firstC at hpre ⊢
  split at hpre
  rotate_left
  · exact hpre.elim
  rename_i n sz get
  obtain ⟨rfl, hn, hget⟩ := hpre
  simp only [Proofs.Tryd.f42]
  simp (maxSteps := 4000000) only [go_sem, ↓op_move, ↓op_assign, ↓op_pick, ↓op_alloc, ↓op_box, ↓op_build, ↓op_buildSlice, ↓op_load, ↓op_store, ↓op_nilCheck, ↓op_bin, ↓op_un, ↓op_convert, ↓op_makeFunc, ↓op_makeSlice, ↓op_slice, ↓op_fieldAddr, ↓op_field, ↓op_indexAddr, ↓op_index, ↓op_extract, ↓op_lookup, ↓op_mapUpdate, ↓op_makeMap, ↓op_range, ↓op_next, ↓op_call, ↓op_builtin, ↓g_tt, ↓g_ff, ↓g_tf, ↓g_ft, ↓g_tnt, ↓g_tnf, ↓g_fnt, ↓g_fnf]
  refine RestT.loopI (β := Nat) [2, 4, 5, 6, 7, 8, 9, 10, 11, 12, 13, 14, 15, 16, 17, 18] (fun i => [(3, .int .i64 i)]) (fun _ => fun _ => none) (fun i => i ≤ n ∧ firstI (intAt get) 0 n = firstI (intAt get) i (n - i)) (fun i => n - i) 0 ⟨by omega, by simp⟩ ?_ HpLe.none ?_
  · simp (maxSteps := 4000000) only [go_sem, ↓op_move, ↓op_assign, ↓op_pick, ↓op_alloc, ↓op_box, ↓op_build, ↓op_buildSlice, ↓op_load, ↓op_store, ↓op_nilCheck, ↓op_bin, ↓op_un, ↓op_convert, ↓op_makeFunc, ↓op_makeSlice, ↓op_slice, ↓op_fieldAddr, ↓op_field, ↓op_indexAddr, ↓op_index, ↓op_extract, ↓op_lookup, ↓op_mapUpdate, ↓op_makeMap, ↓op_range, ↓op_next, ↓op_call, ↓op_builtin, ↓g_tt, ↓g_ff, ↓g_tf, ↓g_ft, ↓g_tnt, ↓g_tnf, ↓g_fnt, ↓g_fnf]
    try simp
  · intro ck i hck hI
    have hi := hI.1
    have hf := hI.2
    simp (maxSteps := 4000000) only [go_sem, ↓op_move, ↓op_assign, ↓op_pick, ↓op_alloc, ↓op_box, ↓op_build, ↓op_buildSlice, ↓op_load, ↓op_store, ↓op_nilCheck, ↓op_bin, ↓op_un, ↓op_convert, ↓op_makeFunc, ↓op_makeSlice, ↓op_slice, ↓op_fieldAddr, ↓op_field, ↓op_indexAddr, ↓op_index, ↓op_extract, ↓op_lookup, ↓op_mapUpdate, ↓op_makeMap, ↓op_range, ↓op_next, ↓op_call, ↓op_builtin, ↓g_tt, ↓g_ff, ↓g_tf, ↓g_ft, ↓g_tnt, ↓g_tnf, ↓g_fnt, ↓g_fnf]
    refine ⟨fun hlt => ?_, fun hge => ?_⟩
    · have hlt : i < n := by omega
      have hg := hget i hlt
      rw [firstI_step hlt] at hf
      simp (maxSteps := 4000000) only [go_sem, ↓op_move, ↓op_assign, ↓op_pick, ↓op_alloc, ↓op_box, ↓op_build, ↓op_buildSlice, ↓op_load, ↓op_store, ↓op_nilCheck, ↓op_bin, ↓op_un, ↓op_convert, ↓op_makeFunc, ↓op_makeSlice, ↓op_slice, ↓op_fieldAddr, ↓op_field, ↓op_indexAddr, ↓op_index, ↓op_extract, ↓op_lookup, ↓op_mapUpdate, ↓op_makeMap, ↓op_range, ↓op_next, ↓op_call, ↓op_builtin, ↓g_tt, ↓g_ff, ↓g_tf, ↓g_ft, ↓g_tnt, ↓g_tnf, ↓g_fnt, ↓g_fnf, hg]
      refine ⟨by omega, fun h => ⟨by omega, VEnt.of_eq ?_⟩, fun h => ⟨inK_of (by omega) (by omega), i + 1, ⟨by omega, ?_⟩, by omega, .inr rfl, HpLe.none⟩⟩
      · simp at h
        rw [hf, if_pos h]
      · simp at h
        rw [hf, if_neg (by simpa using h)]
    · rw [hf, firstI_end (by omega)]
      exact VEnt.of_eq rfl

theorem aPoint_ok : Holds Proofs.Tryd.prog G0 54 (pointC 10000 10000) := by
  refine Holds.of_exC D54 Proofs.Tryd.func54 rfl foll (by kernel_rfl) (tab [(46, firstC), (66, withinC), (iceKey 1, iceC)]) (tab_ok ⟨aFirst_ok, aWithin_ok, ice_holds, trivial⟩) G0_ok fun k0 rl args hpu hpre => ?_
  unfold pointC at hpre ⊢
  split at hpre
  rotate_left
  · exact hpre.elim
  simp only [Proofs.Tryd.f54]
  simp (maxSteps := 4000000) only [go_sem, ↓op_move, ↓op_assign, ↓op_pick, ↓op_alloc, ↓op_box, ↓op_build, ↓op_buildSlice, ↓op_load, ↓op_store, ↓op_nilCheck, ↓op_bin, ↓op_un, ↓op_convert, ↓op_makeFunc, ↓op_makeSlice, ↓op_slice, ↓op_fieldAddr, ↓op_field, ↓op_indexAddr, ↓op_index, ↓op_extract, ↓op_lookup, ↓op_mapUpdate, ↓op_makeMap, ↓op_range, ↓op_next, ↓op_call, ↓op_builtin, ↓g_tt, ↓g_ff, ↓g_tf, ↓g_ft, ↓g_tnt, ↓g_tnf, ↓g_fnt, ↓g_fnf]
  exact VEnt.of_eq rfl

theorem aIv_ok : Holds Proofs.Tryd.prog G0 76 intervalC := by
  refine Holds.of_exC D76 Proofs.Tryd.func76 rfl foll (by kernel_rfl) (tab [(46, firstC), (47, whenC), (66, withinC), (iceKey 2, iceC)]) (tab_ok ⟨aFirst_ok, aWhen_ok, aWithin_ok, ice_holds, trivial⟩) G0_ok fun k0 rl args hpu hpre => ?_
  unfold intervalC at hpre ⊢
  split at hpre
  rotate_left
  · exact hpre.elim
  simp only [Proofs.Tryd.f76]
  simp (maxSteps := 4000000) only [go_sem, ↓op_move, ↓op_assign, ↓op_pick, ↓op_alloc, ↓op_box, ↓op_build, ↓op_buildSlice, ↓op_load, ↓op_store, ↓op_nilCheck, ↓op_bin, ↓op_un, ↓op_convert, ↓op_makeFunc, ↓op_makeSlice, ↓op_slice, ↓op_fieldAddr, ↓op_field, ↓op_indexAddr, ↓op_index, ↓op_extract, ↓op_lookup, ↓op_mapUpdate, ↓op_makeMap, ↓op_range, ↓op_next, ↓op_call, ↓op_builtin, ↓g_tt, ↓g_ff, ↓g_tf, ↓g_ft, ↓g_tnt, ↓g_tnf, ↓g_fnt, ↓g_fnf]
  exact VEnt.of_eq rfl

theorem rIv_ok : Holds Proofs.Tryd.prog G0 72 intervalC := by
  refine Holds.of_exC D72 Proofs.Tryd.func72 rfl foll (by kernel_rfl) (tab [(21, withinC), (42, firstC), (43, whenC), (iceKey 2, iceC)]) (tab_ok ⟨qRange_ok, qFirst_ok, qWhen_ok, ice_holds, trivial⟩) G0_ok fun k0 rl args hpu hpre => ?_
  unfold intervalC at hpre ⊢
  split at hpre
  rotate_left
  · exact hpre.elim
  simp only [Proofs.Tryd.f72]
  simp (maxSteps := 4000000) only [go_sem, ↓op_move, ↓op_assign, ↓op_pick, ↓op_alloc, ↓op_box, ↓op_build, ↓op_buildSlice, ↓op_load, ↓op_store, ↓op_nilCheck, ↓op_bin, ↓op_un, ↓op_convert, ↓op_makeFunc, ↓op_makeSlice, ↓op_slice, ↓op_fieldAddr, ↓op_field, ↓op_indexAddr, ↓op_index, ↓op_extract, ↓op_lookup, ↓op_mapUpdate, ↓op_makeMap, ↓op_range, ↓op_next, ↓op_call, ↓op_builtin, ↓g_tt, ↓g_ff, ↓g_tf, ↓g_ft, ↓g_tnt, ↓g_tnf, ↓g_fnt, ↓g_fnf]
  exact VEnt.of_eq rfl

theorem aIv1_ok : Holds Proofs.Tryd.prog G0 75 (ivC 1000) := by
  refine Holds.of_exC D75 Proofs.Tryd.func75 rfl foll (by kernel_rfl) (tab [(76, intervalC), (iceKey 1, iceC)]) (tab_ok ⟨aIv_ok, ice_holds, trivial⟩) G0_ok fun k0 rl args hpu hpre => ?_
  unfold ivC at hpre ⊢
  split at hpre
  rotate_left
  · exact hpre.elim
  simp only [Proofs.Tryd.f75]
  simp (maxSteps := 4000000) only [go_sem, ↓op_move, ↓op_assign, ↓op_pick, ↓op_alloc, ↓op_box, ↓op_build, ↓op_buildSlice, ↓op_load, ↓op_store, ↓op_nilCheck, ↓op_bin, ↓op_un, ↓op_convert, ↓op_makeFunc, ↓op_makeSlice, ↓op_slice, ↓op_fieldAddr, ↓op_field, ↓op_indexAddr, ↓op_index, ↓op_extract, ↓op_lookup, ↓op_mapUpdate, ↓op_makeMap, ↓op_range, ↓op_next, ↓op_call, ↓op_builtin, ↓g_tt, ↓g_ff, ↓g_tf, ↓g_ft, ↓g_tnt, ↓g_tnf, ↓g_fnt, ↓g_fnf]
  exact VEnt.of_eq rfl

theorem aIv2_ok : Holds Proofs.Tryd.prog G0 75 (ivC 1000) := by
  refine Holds.of_exC D75 Proofs.Tryd.func75 rfl foll (by kernel_rfl) (tab [(76, intervalC), (iceKey 1, iceC)]) (tab_ok ⟨aIv_ok, ice_holds, trivial⟩) G0_ok fun k0 rl args hpu hpre => ?_
  unfold ivC at hpre ⊢
  split at hpre
  rotate_left
  · exact hpre.elim
  simp only [Proofs.Tryd.f75]
  simp (maxSteps := 4000000) only [go_sem, ↓op_move, ↓op_assign, ↓op_pick, ↓op_alloc, ↓op_box, ↓op_build, ↓op_buildSlice, ↓op_load, ↓op_store, ↓op_nilCheck, ↓op_bin, ↓op_un, ↓op_convert, ↓op_makeFunc, ↓op_makeSlice, ↓op_slice, ↓op_fieldAddr, ↓op_field, ↓op_indexAddr, ↓op_index, ↓op_extract, ↓op_lookup, ↓op_mapUpdate, ↓op_makeMap, ↓op_range, ↓op_next, ↓op_call, ↓op_builtin, ↓g_tt, ↓g_ff, ↓g_tf, ↓g_ft, ↓g_tnt, ↓g_tnf, ↓g_fnt, ↓g_fnf]
  exact VEnt.of_eq rfl
end Go.Fly.Tryd
