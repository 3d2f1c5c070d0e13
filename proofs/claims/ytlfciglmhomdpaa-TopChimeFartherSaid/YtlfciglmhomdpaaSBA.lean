/- First errors, ranges, points. -/
import Derived.Test.YtlfciglmhomdpaaSEn
set_option linter.unusedSimpArgs false
set_option linter.unusedVariables false
set_option maxRecDepth 100000
namespace Go.Fly.Try
open Go

theorem aWhen_ok : Holds Proofs.Try.prog G0 57 whenC := by
  refine Holds.of_exC D57 Proofs.Try.func57 rfl foll (by kernel_rfl) (tab []) (tab_ok trivial) G0_ok fun k0 rl args hpu hpre => ?_
  unfold whenC at hpre ⊢
  split at hpre
  rotate_left
  · exact hpre.elim
  simp only [Proofs.Try.f57]
  simp (maxSteps := 4000000) only [go_sem, ↓op_move, ↓op_assign, ↓op_pick, ↓op_alloc, ↓op_box, ↓op_build, ↓op_buildSlice, ↓op_load, ↓op_store, ↓op_nilCheck, ↓op_bin, ↓op_un, ↓op_convert, ↓op_makeFunc, ↓op_makeSlice, ↓op_slice, ↓op_fieldAddr, ↓op_field, ↓op_indexAddr, ↓op_index, ↓op_extract, ↓op_range, ↓op_next, ↓op_call, ↓op_builtin, ↓g_tt, ↓g_ff, ↓g_tf, ↓g_ft, ↓g_tnt, ↓g_tnf, ↓g_fnt, ↓g_fnf]
  exact ⟨fun h => VEnt.of_eq (by simp [h, err]), fun h => VEnt.of_eq (by simp [h, err])⟩

theorem sWhen_ok : Holds Proofs.Try.prog G0 63 whenC := by
  refine Holds.of_exC D63 Proofs.Try.func63 rfl foll (by kernel_rfl) (tab []) (tab_ok trivial) G0_ok fun k0 rl args hpu hpre => ?_
  unfold whenC at hpre ⊢
  split at hpre
  rotate_left
  · exact hpre.elim
  simp only [Proofs.Try.f63]
  simp (maxSteps := 4000000) only [go_sem, ↓op_move, ↓op_assign, ↓op_pick, ↓op_alloc, ↓op_box, ↓op_build, ↓op_buildSlice, ↓op_load, ↓op_store, ↓op_nilCheck, ↓op_bin, ↓op_un, ↓op_convert, ↓op_makeFunc, ↓op_makeSlice, ↓op_slice, ↓op_fieldAddr, ↓op_field, ↓op_indexAddr, ↓op_index, ↓op_extract, ↓op_range, ↓op_next, ↓op_call, ↓op_builtin, ↓g_tt, ↓g_ff, ↓g_tf, ↓g_ft, ↓g_tnt, ↓g_tnf, ↓g_fnt, ↓g_fnf]
  exact ⟨fun h => VEnt.of_eq (by simp [h, err]), fun h => VEnt.of_eq (by simp [h, err])⟩

theorem dWhen_ok : Holds Proofs.Try.prog G0 87 whenC := by
  refine Holds.of_exC D87 Proofs.Try.func87 rfl foll (by kernel_rfl) (tab []) (tab_ok trivial) G0_ok fun k0 rl args hpu hpre => ?_
  unfold whenC at hpre ⊢
  split at hpre
  rotate_left
  · exact hpre.elim
  simp only [Proofs.Try.f87]
  simp (maxSteps := 4000000) only [go_sem, ↓op_move, ↓op_assign, ↓op_pick, ↓op_alloc, ↓op_box, ↓op_build, ↓op_buildSlice, ↓op_load, ↓op_store, ↓op_nilCheck, ↓op_bin, ↓op_un, ↓op_convert, ↓op_makeFunc, ↓op_makeSlice, ↓op_slice, ↓op_fieldAddr, ↓op_field, ↓op_indexAddr, ↓op_index, ↓op_extract, ↓op_range, ↓op_next, ↓op_call, ↓op_builtin, ↓g_tt, ↓g_ff, ↓g_tf, ↓g_ft, ↓g_tnt, ↓g_tnf, ↓g_fnt, ↓g_fnf]
  exact ⟨fun h => VEnt.of_eq (by simp [h, err]), fun h => VEnt.of_eq (by simp [h, err])⟩

theorem qWhen_ok : Holds Proofs.Try.prog G0 32 whenC := by
  refine Holds.of_exC D32 Proofs.Try.func32 rfl foll (by kernel_rfl) (tab []) (tab_ok trivial) G0_ok fun k0 rl args hpu hpre => ?_
  unfold whenC at hpre ⊢
  split at hpre
  rotate_left
  · exact hpre.elim
  simp only [Proofs.Try.f32]
  simp (maxSteps := 4000000) only [go_sem, ↓op_move, ↓op_assign, ↓op_pick, ↓op_alloc, ↓op_box, ↓op_build, ↓op_buildSlice, ↓op_load, ↓op_store, ↓op_nilCheck, ↓op_bin, ↓op_un, ↓op_convert, ↓op_makeFunc, ↓op_makeSlice, ↓op_slice, ↓op_fieldAddr, ↓op_field, ↓op_indexAddr, ↓op_index, ↓op_extract, ↓op_range, ↓op_next, ↓op_call, ↓op_builtin, ↓g_tt, ↓g_ff, ↓g_tf, ↓g_ft, ↓g_tnt, ↓g_tnf, ↓g_fnt, ↓g_fnf]
  exact ⟨fun h => VEnt.of_eq (by simp [h, err]), fun h => VEnt.of_eq (by simp [h, err])⟩

theorem aWithin_ok : Holds Proofs.Try.prog G0 60 withinC := by
  refine Holds.of_exC D60 Proofs.Try.func60 rfl foll (by kernel_rfl) (tab [(57, whenC)]) (tab_ok ⟨aWhen_ok, trivial⟩) G0_ok fun k0 rl args hpu hpre => ?_
  unfold withinC at hpre ⊢
  split at hpre
  rotate_left
  · exact hpre.elim
  simp only [Proofs.Try.f60]
  simp (maxSteps := 4000000) only [go_sem, ↓op_move, ↓op_assign, ↓op_pick, ↓op_alloc, ↓op_box, ↓op_build, ↓op_buildSlice, ↓op_load, ↓op_store, ↓op_nilCheck, ↓op_bin, ↓op_un, ↓op_convert, ↓op_makeFunc, ↓op_makeSlice, ↓op_slice, ↓op_fieldAddr, ↓op_field, ↓op_indexAddr, ↓op_index, ↓op_extract, ↓op_range, ↓op_next, ↓op_call, ↓op_builtin, ↓g_tt, ↓g_ff, ↓g_tf, ↓g_ft, ↓g_tnt, ↓g_tnf, ↓g_fnt, ↓g_fnf]
  exact ⟨fun h => VEnt.of_eq (by simp [h, err, rng]), fun h => VEnt.of_eq (by simp [h, err, rng])⟩

theorem sWithin_ok : Holds Proofs.Try.prog G0 67 withinC := by
  refine Holds.of_exC D67 Proofs.Try.func67 rfl foll (by kernel_rfl) (tab [(63, whenC)]) (tab_ok ⟨sWhen_ok, trivial⟩) G0_ok fun k0 rl args hpu hpre => ?_
  unfold withinC at hpre ⊢
  split at hpre
  rotate_left
  · exact hpre.elim
  simp only [Proofs.Try.f67]
  simp (maxSteps := 4000000) only [go_sem, ↓op_move, ↓op_assign, ↓op_pick, ↓op_alloc, ↓op_box, ↓op_build, ↓op_buildSlice, ↓op_load, ↓op_store, ↓op_nilCheck, ↓op_bin, ↓op_un, ↓op_convert, ↓op_makeFunc, ↓op_makeSlice, ↓op_slice, ↓op_fieldAddr, ↓op_field, ↓op_indexAddr, ↓op_index, ↓op_extract, ↓op_range, ↓op_next, ↓op_call, ↓op_builtin, ↓g_tt, ↓g_ff, ↓g_tf, ↓g_ft, ↓g_tnt, ↓g_tnf, ↓g_fnt, ↓g_fnf]
  exact ⟨fun h => VEnt.of_eq (by simp [h, err, rng]), fun h => VEnt.of_eq (by simp [h, err, rng])⟩

theorem dWithin_ok : Holds Proofs.Try.prog G0 73 withinC := by
  refine Holds.of_exC D73 Proofs.Try.func73 rfl foll (by kernel_rfl) (tab [(87, whenC)]) (tab_ok ⟨dWhen_ok, trivial⟩) G0_ok fun k0 rl args hpu hpre => ?_
  unfold withinC at hpre ⊢
  split at hpre
  rotate_left
  · exact hpre.elim
  simp only [Proofs.Try.f73]
  simp (maxSteps := 4000000) only [go_sem, ↓op_move, ↓op_assign, ↓op_pick, ↓op_alloc, ↓op_box, ↓op_build, ↓op_buildSlice, ↓op_load, ↓op_store, ↓op_nilCheck, ↓op_bin, ↓op_un, ↓op_convert, ↓op_makeFunc, ↓op_makeSlice, ↓op_slice, ↓op_fieldAddr, ↓op_field, ↓op_indexAddr, ↓op_index, ↓op_extract, ↓op_range, ↓op_next, ↓op_call, ↓op_builtin, ↓g_tt, ↓g_ff, ↓g_tf, ↓g_ft, ↓g_tnt, ↓g_tnf, ↓g_fnt, ↓g_fnf]
  exact ⟨fun h => VEnt.of_eq (by simp [h, err, rng]), fun h => VEnt.of_eq (by simp [h, err, rng])⟩

theorem qRange_ok : Holds Proofs.Try.prog G0 30 withinC := by
  refine Holds.of_exC D30 Proofs.Try.func30 rfl foll (by kernel_rfl) (tab [(32, whenC)]) (tab_ok ⟨qWhen_ok, trivial⟩) G0_ok fun k0 rl args hpu hpre => ?_
  unfold withinC at hpre ⊢
  split at hpre
  rotate_left
  · exact hpre.elim
  simp only [Proofs.Try.f30]
  simp (maxSteps := 4000000) only [go_sem, ↓op_move, ↓op_assign, ↓op_pick, ↓op_alloc, ↓op_box, ↓op_build, ↓op_buildSlice, ↓op_load, ↓op_store, ↓op_nilCheck, ↓op_bin, ↓op_un, ↓op_convert, ↓op_makeFunc, ↓op_makeSlice, ↓op_slice, ↓op_fieldAddr, ↓op_field, ↓op_indexAddr, ↓op_index, ↓op_extract, ↓op_range, ↓op_next, ↓op_call, ↓op_builtin, ↓g_tt, ↓g_ff, ↓g_tf, ↓g_ft, ↓g_tnt, ↓g_tnf, ↓g_fnt, ↓g_fnf]
  exact ⟨fun h => VEnt.of_eq (by simp [h, err, rng]), fun h => VEnt.of_eq (by simp [h, err, rng])⟩

theorem aFirst_ok : Holds Proofs.Try.prog G0 48 firstC := by
  refine Holds.of_exC D48 Proofs.Try.func48 rfl foll (by kernel_rfl) (tab []) (tab_ok trivial) G0_ok fun k0 rl args hpu hpre => ?_
  unfold firstC at hpre ⊢
  split at hpre
  rotate_left
  · exact hpre.elim
  rename_i n sz get
  obtain ⟨rfl, hn, hget⟩ := hpre
  simp only [Proofs.Try.f48]
  simp (maxSteps := 4000000) only [go_sem, ↓op_move, ↓op_assign, ↓op_pick, ↓op_alloc, ↓op_box, ↓op_build, ↓op_buildSlice, ↓op_load, ↓op_store, ↓op_nilCheck, ↓op_bin, ↓op_un, ↓op_convert, ↓op_makeFunc, ↓op_makeSlice, ↓op_slice, ↓op_fieldAddr, ↓op_field, ↓op_indexAddr, ↓op_index, ↓op_extract, ↓op_range, ↓op_next, ↓op_call, ↓op_builtin, ↓g_tt, ↓g_ff, ↓g_tf, ↓g_ft, ↓g_tnt, ↓g_tnf, ↓g_fnt, ↓g_fnf]
  refine RestT.loopI (β := Nat) [2, 4, 8, 9, 10, 11, 12, 13, 14] (fun i => [(7, .int .i64 i)]) (fun _ => fun _ => none) (fun i => i ≤ n ∧ firstI (intAt get) 0 n = firstI (intAt get) i (n - i)) (fun i => n - i) 0 ⟨by omega, by simp⟩ ?_ HpLe.none ?_
  · simp (maxSteps := 4000000) only [go_sem, ↓op_move, ↓op_assign, ↓op_pick, ↓op_alloc, ↓op_box, ↓op_build, ↓op_buildSlice, ↓op_load, ↓op_store, ↓op_nilCheck, ↓op_bin, ↓op_un, ↓op_convert, ↓op_makeFunc, ↓op_makeSlice, ↓op_slice, ↓op_fieldAddr, ↓op_field, ↓op_indexAddr, ↓op_index, ↓op_extract, ↓op_range, ↓op_next, ↓op_call, ↓op_builtin, ↓g_tt, ↓g_ff, ↓g_tf, ↓g_ft, ↓g_tnt, ↓g_tnf, ↓g_fnt, ↓g_fnf]
    try simp
  · intro ck i hck hI
    have hi := hI.1
    have hf := hI.2
    simp (maxSteps := 4000000) only [go_sem, ↓op_move, ↓op_assign, ↓op_pick, ↓op_alloc, ↓op_box, ↓op_build, ↓op_buildSlice, ↓op_load, ↓op_store, ↓op_nilCheck, ↓op_bin, ↓op_un, ↓op_convert, ↓op_makeFunc, ↓op_makeSlice, ↓op_slice, ↓op_fieldAddr, ↓op_field, ↓op_indexAddr, ↓op_index, ↓op_extract, ↓op_range, ↓op_next, ↓op_call, ↓op_builtin, ↓g_tt, ↓g_ff, ↓g_tf, ↓g_ft, ↓g_tnt, ↓g_tnf, ↓g_fnt, ↓g_fnf]
    refine ⟨fun hlt => ?_, fun hge => ?_⟩
    · have hlt : i < n := by omega
      have hg := hget i hlt
      rw [firstI_step hlt] at hf
      simp (maxSteps := 4000000) only [go_sem, ↓op_move, ↓op_assign, ↓op_pick, ↓op_alloc, ↓op_box, ↓op_build, ↓op_buildSlice, ↓op_load, ↓op_store, ↓op_nilCheck, ↓op_bin, ↓op_un, ↓op_convert, ↓op_makeFunc, ↓op_makeSlice, ↓op_slice, ↓op_fieldAddr, ↓op_field, ↓op_indexAddr, ↓op_index, ↓op_extract, ↓op_range, ↓op_next, ↓op_call, ↓op_builtin, ↓g_tt, ↓g_ff, ↓g_tf, ↓g_ft, ↓g_tnt, ↓g_tnf, ↓g_fnt, ↓g_fnf, hg]
      refine ⟨by omega, fun h => VEnt.of_eq ?_, fun h => ⟨inK_of (by omega) (by omega), i + 1, ⟨by omega, ?_⟩, by omega, .inr rfl, HpLe.none⟩⟩
      · simp at h
        rw [hf, if_pos h]
      · simp at h
        rw [hf, if_neg (by simpa using h)]
    · rw [hf, firstI_end (by omega)]
      exact VEnt.of_eq rfl

theorem sFirst_ok : Holds Proofs.Try.prog G0 38 firstC := by
  refine Holds.of_exC D38 Proofs.Try.func38 rfl foll (by kernel_rfl) (tab []) (tab_ok trivial) G0_ok fun k0 rl args hpu hpre => ?_
  unfold firstC at hpre ⊢
  split at hpre
  rotate_left
  · exact hpre.elim
  rename_i n sz get
  obtain ⟨rfl, hn, hget⟩ := hpre
  simp only [Proofs.Try.f38]
  simp (maxSteps := 4000000) only [go_sem, ↓op_move, ↓op_assign, ↓op_pick, ↓op_alloc, ↓op_box, ↓op_build, ↓op_buildSlice, ↓op_load, ↓op_store, ↓op_nilCheck, ↓op_bin, ↓op_un, ↓op_convert, ↓op_makeFunc, ↓op_makeSlice, ↓op_slice, ↓op_fieldAddr, ↓op_field, ↓op_indexAddr, ↓op_index, ↓op_extract, ↓op_range, ↓op_next, ↓op_call, ↓op_builtin, ↓g_tt, ↓g_ff, ↓g_tf, ↓g_ft, ↓g_tnt, ↓g_tnf, ↓g_fnt, ↓g_fnf]
  refine RestT.loopI (β := Nat) [2, 4, 8, 9, 10, 11, 12, 13, 14] (fun i => [(7, .int .i64 i)]) (fun _ => fun _ => none) (fun i => i ≤ n ∧ firstI (intAt get) 0 n = firstI (intAt get) i (n - i)) (fun i => n - i) 0 ⟨by omega, by simp⟩ ?_ HpLe.none ?_
  · simp (maxSteps := 4000000) only [go_sem, ↓op_move, ↓op_assign, ↓op_pick, ↓op_alloc, ↓op_box, ↓op_build, ↓op_buildSlice, ↓op_load, ↓op_store, ↓op_nilCheck, ↓op_bin, ↓op_un, ↓op_convert, ↓op_makeFunc, ↓op_makeSlice, ↓op_slice, ↓op_fieldAddr, ↓op_field, ↓op_indexAddr, ↓op_index, ↓op_extract, ↓op_range, ↓op_next, ↓op_call, ↓op_builtin, ↓g_tt, ↓g_ff, ↓g_tf, ↓g_ft, ↓g_tnt, ↓g_tnf, ↓g_fnt, ↓g_fnf]
    try simp
  · intro ck i hck hI
    have hi := hI.1
    have hf := hI.2
    simp (maxSteps := 4000000) only [go_sem, ↓op_move, ↓op_assign, ↓op_pick, ↓op_alloc, ↓op_box, ↓op_build, ↓op_buildSlice, ↓op_load, ↓op_store, ↓op_nilCheck, ↓op_bin, ↓op_un, ↓op_convert, ↓op_makeFunc, ↓op_makeSlice, ↓op_slice, ↓op_fieldAddr, ↓op_field, ↓op_indexAddr, ↓op_index, ↓op_extract, ↓op_range, ↓op_next, ↓op_call, ↓op_builtin, ↓g_tt, ↓g_ff, ↓g_tf, ↓g_ft, ↓g_tnt, ↓g_tnf, ↓g_fnt, ↓g_fnf]
    refine ⟨fun hlt => ?_, fun hge => ?_⟩
    · have hlt : i < n := by omega
      have hg := hget i hlt
      rw [firstI_step hlt] at hf
      simp (maxSteps := 4000000) only [go_sem, ↓op_move, ↓op_assign, ↓op_pick, ↓op_alloc, ↓op_box, ↓op_build, ↓op_buildSlice, ↓op_load, ↓op_store, ↓op_nilCheck, ↓op_bin, ↓op_un, ↓op_convert, ↓op_makeFunc, ↓op_makeSlice, ↓op_slice, ↓op_fieldAddr, ↓op_field, ↓op_indexAddr, ↓op_index, ↓op_extract, ↓op_range, ↓op_next, ↓op_call, ↓op_builtin, ↓g_tt, ↓g_ff, ↓g_tf, ↓g_ft, ↓g_tnt, ↓g_tnf, ↓g_fnt, ↓g_fnf, hg]
      refine ⟨by omega, fun h => VEnt.of_eq ?_, fun h => ⟨inK_of (by omega) (by omega), i + 1, ⟨by omega, ?_⟩, by omega, .inr rfl, HpLe.none⟩⟩
      · simp at h
        rw [hf, if_pos h]
      · simp at h
        rw [hf, if_neg (by simpa using h)]
    · rw [hf, firstI_end (by omega)]
      exact VEnt.of_eq rfl

theorem qFirst_ok : Holds Proofs.Try.prog G0 26 firstC := by
  refine Holds.of_exC D26 Proofs.Try.func26 rfl foll (by kernel_rfl) (tab []) (tab_ok trivial) G0_ok fun k0 rl args hpu hpre => ?_
  unfold firstC at hpre ⊢
  split at hpre
  rotate_left
  · exact hpre.elim
  rename_i n sz get
  obtain ⟨rfl, hn, hget⟩ := hpre
  simp only [Proofs.Try.f26]
  simp (maxSteps := 4000000) only [go_sem, ↓op_move, ↓op_assign, ↓op_pick, ↓op_alloc, ↓op_box, ↓op_build, ↓op_buildSlice, ↓op_load, ↓op_store, ↓op_nilCheck, ↓op_bin, ↓op_un, ↓op_convert, ↓op_makeFunc, ↓op_makeSlice, ↓op_slice, ↓op_fieldAddr, ↓op_field, ↓op_indexAddr, ↓op_index, ↓op_extract, ↓op_range, ↓op_next, ↓op_call, ↓op_builtin, ↓g_tt, ↓g_ff, ↓g_tf, ↓g_ft, ↓g_tnt, ↓g_tnf, ↓g_fnt, ↓g_fnf]
  refine RestT.loopI (β := Nat) [2, 4, 5, 6, 7, 8, 9, 10, 11, 12, 13, 14, 15, 16, 17, 18] (fun i => [(3, .int .i64 i)]) (fun _ => fun _ => none) (fun i => i ≤ n ∧ firstI (intAt get) 0 n = firstI (intAt get) i (n - i)) (fun i => n - i) 0 ⟨by omega, by simp⟩ ?_ HpLe.none ?_
  · simp (maxSteps := 4000000) only [go_sem, ↓op_move, ↓op_assign, ↓op_pick, ↓op_alloc, ↓op_box, ↓op_build, ↓op_buildSlice, ↓op_load, ↓op_store, ↓op_nilCheck, ↓op_bin, ↓op_un, ↓op_convert, ↓op_makeFunc, ↓op_makeSlice, ↓op_slice, ↓op_fieldAddr, ↓op_field, ↓op_indexAddr, ↓op_index, ↓op_extract, ↓op_range, ↓op_next, ↓op_call, ↓op_builtin, ↓g_tt, ↓g_ff, ↓g_tf, ↓g_ft, ↓g_tnt, ↓g_tnf, ↓g_fnt, ↓g_fnf]
    try simp
  · intro ck i hck hI
    have hi := hI.1
    have hf := hI.2
    simp (maxSteps := 4000000) only [go_sem, ↓op_move, ↓op_assign, ↓op_pick, ↓op_alloc, ↓op_box, ↓op_build, ↓op_buildSlice, ↓op_load, ↓op_store, ↓op_nilCheck, ↓op_bin, ↓op_un, ↓op_convert, ↓op_makeFunc, ↓op_makeSlice, ↓op_slice, ↓op_fieldAddr, ↓op_field, ↓op_indexAddr, ↓op_index, ↓op_extract, ↓op_range, ↓op_next, ↓op_call, ↓op_builtin, ↓g_tt, ↓g_ff, ↓g_tf, ↓g_ft, ↓g_tnt, ↓g_tnf, ↓g_fnt, ↓g_fnf]
    refine ⟨fun hlt => ?_, fun hge => ?_⟩
    · have hlt : i < n := by omega
      have hg := hget i hlt
      rw [firstI_step hlt] at hf
      simp (maxSteps := 4000000) only [go_sem, ↓op_move, ↓op_assign, ↓op_pick, ↓op_alloc, ↓op_box, ↓op_build, ↓op_buildSlice, ↓op_load, ↓op_store, ↓op_nilCheck, ↓op_bin, ↓op_un, ↓op_convert, ↓op_makeFunc, ↓op_makeSlice, ↓op_slice, ↓op_fieldAddr, ↓op_field, ↓op_indexAddr, ↓op_index, ↓op_extract, ↓op_range, ↓op_next, ↓op_call, ↓op_builtin, ↓g_tt, ↓g_ff, ↓g_tf, ↓g_ft, ↓g_tnt, ↓g_tnf, ↓g_fnt, ↓g_fnf, hg]
      refine ⟨by omega, fun h => ⟨by omega, VEnt.of_eq ?_⟩, fun h => ⟨inK_of (by omega) (by omega), i + 1, ⟨by omega, ?_⟩, by omega, .inr rfl, HpLe.none⟩⟩
      · simp at h
        rw [hf, if_pos h]
      · simp at h
        rw [hf, if_neg (by simpa using h)]
    · rw [hf, firstI_end (by omega)]
      exact VEnt.of_eq rfl

theorem aPoint_ok : Holds Proofs.Try.prog G0 77 (pointC 10000 10000) := by
  refine Holds.of_exC D77 Proofs.Try.func77 rfl foll (by kernel_rfl) (tab [(48, firstC), (60, withinC), (iceKey 1, iceC)]) (tab_ok ⟨aFirst_ok, aWithin_ok, ice_holds, trivial⟩) G0_ok fun k0 rl args hpu hpre => ?_
  unfold pointC at hpre ⊢
  split at hpre
  rotate_left
  · exact hpre.elim
  simp only [Proofs.Try.f77]
  simp (maxSteps := 4000000) only [go_sem, ↓op_move, ↓op_assign, ↓op_pick, ↓op_alloc, ↓op_box, ↓op_build, ↓op_buildSlice, ↓op_load, ↓op_store, ↓op_nilCheck, ↓op_bin, ↓op_un, ↓op_convert, ↓op_makeFunc, ↓op_makeSlice, ↓op_slice, ↓op_fieldAddr, ↓op_field, ↓op_indexAddr, ↓op_index, ↓op_extract, ↓op_range, ↓op_next, ↓op_call, ↓op_builtin, ↓g_tt, ↓g_ff, ↓g_tf, ↓g_ft, ↓g_tnt, ↓g_tnf, ↓g_fnt, ↓g_fnf]
  exact VEnt.of_eq rfl

theorem sPlace_ok : Holds Proofs.Try.prog G0 40 (pointC 100000 20000) := by
  refine Holds.of_exC D40 Proofs.Try.func40 rfl foll (by kernel_rfl) (tab [(38, firstC), (67, withinC), (iceKey 1, iceC)]) (tab_ok ⟨sFirst_ok, sWithin_ok, ice_holds, trivial⟩) G0_ok fun k0 rl args hpu hpre => ?_
  unfold pointC at hpre ⊢
  split at hpre
  rotate_left
  · exact hpre.elim
  simp only [Proofs.Try.f40]
  simp (maxSteps := 4000000) only [go_sem, ↓op_move, ↓op_assign, ↓op_pick, ↓op_alloc, ↓op_box, ↓op_build, ↓op_buildSlice, ↓op_load, ↓op_store, ↓op_nilCheck, ↓op_bin, ↓op_un, ↓op_convert, ↓op_makeFunc, ↓op_makeSlice, ↓op_slice, ↓op_fieldAddr, ↓op_field, ↓op_indexAddr, ↓op_index, ↓op_extract, ↓op_range, ↓op_next, ↓op_call, ↓op_builtin, ↓g_tt, ↓g_ff, ↓g_tf, ↓g_ft, ↓g_tnt, ↓g_tnf, ↓g_fnt, ↓g_fnf]
  exact VEnt.of_eq rfl

theorem rPlace_ok : Holds Proofs.Try.prog G0 35 (pointC 100000 20000) := by
  refine Holds.of_exC D35 Proofs.Try.func35 rfl foll (by kernel_rfl) (tab [(26, firstC), (30, withinC), (iceKey 1, iceC)]) (tab_ok ⟨qFirst_ok, qRange_ok, ice_holds, trivial⟩) G0_ok fun k0 rl args hpu hpre => ?_
  unfold pointC at hpre ⊢
  split at hpre
  rotate_left
  · exact hpre.elim
  simp only [Proofs.Try.f35]
  simp (maxSteps := 4000000) only [go_sem, ↓op_move, ↓op_assign, ↓op_pick, ↓op_alloc, ↓op_box, ↓op_build, ↓op_buildSlice, ↓op_load, ↓op_store, ↓op_nilCheck, ↓op_bin, ↓op_un, ↓op_convert, ↓op_makeFunc, ↓op_makeSlice, ↓op_slice, ↓op_fieldAddr, ↓op_field, ↓op_indexAddr, ↓op_index, ↓op_extract, ↓op_range, ↓op_next, ↓op_call, ↓op_builtin, ↓g_tt, ↓g_ff, ↓g_tf, ↓g_ft, ↓g_tnt, ↓g_tnf, ↓g_fnt, ↓g_fnf]
  exact VEnt.of_eq rfl

theorem sDir_ok : Holds Proofs.Try.prog G0 41 (dirC 200000) := by
  refine Holds.of_exC D41 Proofs.Try.func41 rfl foll (by kernel_rfl) (tab [(38, firstC), (67, withinC), (iceKey 1, iceC)]) (tab_ok ⟨sFirst_ok, sWithin_ok, ice_holds, trivial⟩) G0_ok fun k0 rl args hpu hpre => ?_
  unfold dirC at hpre ⊢
  split at hpre
  rotate_left
  · exact hpre.elim
  simp only [Proofs.Try.f41]
  simp (maxSteps := 4000000) only [go_sem, ↓op_move, ↓op_assign, ↓op_pick, ↓op_alloc, ↓op_box, ↓op_build, ↓op_buildSlice, ↓op_load, ↓op_store, ↓op_nilCheck, ↓op_bin, ↓op_un, ↓op_convert, ↓op_makeFunc, ↓op_makeSlice, ↓op_slice, ↓op_fieldAddr, ↓op_field, ↓op_indexAddr, ↓op_index, ↓op_extract, ↓op_range, ↓op_next, ↓op_call, ↓op_builtin, ↓g_tt, ↓g_ff, ↓g_tf, ↓g_ft, ↓g_tnt, ↓g_tnf, ↓g_fnt, ↓g_fnf]
  exact VEnt.of_eq rfl

theorem rDir_ok : Holds Proofs.Try.prog G0 36 (dirC 200000) := by
  refine Holds.of_exC D36 Proofs.Try.func36 rfl foll (by kernel_rfl) (tab [(26, firstC), (30, withinC), (iceKey 1, iceC)]) (tab_ok ⟨qFirst_ok, qRange_ok, ice_holds, trivial⟩) G0_ok fun k0 rl args hpu hpre => ?_
  unfold dirC at hpre ⊢
  split at hpre
  rotate_left
  · exact hpre.elim
  simp only [Proofs.Try.f36]
  simp (maxSteps := 4000000) only [go_sem, ↓op_move, ↓op_assign, ↓op_pick, ↓op_alloc, ↓op_box, ↓op_build, ↓op_buildSlice, ↓op_load, ↓op_store, ↓op_nilCheck, ↓op_bin, ↓op_un, ↓op_convert, ↓op_makeFunc, ↓op_makeSlice, ↓op_slice, ↓op_fieldAddr, ↓op_field, ↓op_indexAddr, ↓op_index, ↓op_extract, ↓op_range, ↓op_next, ↓op_call, ↓op_builtin, ↓g_tt, ↓g_ff, ↓g_tf, ↓g_ft, ↓g_tnt, ↓g_tnf, ↓g_fnt, ↓g_fnf]
  exact VEnt.of_eq rfl

theorem sPower_ok : Holds Proofs.Try.prog G0 42 (int1C (fun n => rng n 1 100)) := by
  refine Holds.of_exC D42 Proofs.Try.func42 rfl foll (by kernel_rfl) (tab [(67, withinC)]) (tab_ok ⟨sWithin_ok, trivial⟩) G0_ok fun k0 rl args hpu hpre => ?_
  unfold int1C at hpre ⊢
  split at hpre
  rotate_left
  · exact hpre.elim
  simp only [Proofs.Try.f42]
  simp (maxSteps := 4000000) only [go_sem, ↓op_move, ↓op_assign, ↓op_pick, ↓op_alloc, ↓op_box, ↓op_build, ↓op_buildSlice, ↓op_load, ↓op_store, ↓op_nilCheck, ↓op_bin, ↓op_un, ↓op_convert, ↓op_makeFunc, ↓op_makeSlice, ↓op_slice, ↓op_fieldAddr, ↓op_field, ↓op_indexAddr, ↓op_index, ↓op_extract, ↓op_range, ↓op_next, ↓op_call, ↓op_builtin, ↓g_tt, ↓g_ff, ↓g_tf, ↓g_ft, ↓g_tnt, ↓g_tnf, ↓g_fnt, ↓g_fnf]
  exact VEnt.of_eq rfl

theorem rPower_ok : Holds Proofs.Try.prog G0 37 (int1C (fun n => rng n 1 100)) := by
  refine Holds.of_exC D37 Proofs.Try.func37 rfl foll (by kernel_rfl) (tab [(30, withinC)]) (tab_ok ⟨qRange_ok, trivial⟩) G0_ok fun k0 rl args hpu hpre => ?_
  unfold int1C at hpre ⊢
  split at hpre
  rotate_left
  · exact hpre.elim
  simp only [Proofs.Try.f37]
  simp (maxSteps := 4000000) only [go_sem, ↓op_move, ↓op_assign, ↓op_pick, ↓op_alloc, ↓op_box, ↓op_build, ↓op_buildSlice, ↓op_load, ↓op_store, ↓op_nilCheck, ↓op_bin, ↓op_un, ↓op_convert, ↓op_makeFunc, ↓op_makeSlice, ↓op_slice, ↓op_fieldAddr, ↓op_field, ↓op_indexAddr, ↓op_index, ↓op_extract, ↓op_range, ↓op_next, ↓op_call, ↓op_builtin, ↓g_tt, ↓g_ff, ↓g_tf, ↓g_ft, ↓g_tnt, ↓g_tnf, ↓g_fnt, ↓g_fnf]
  exact VEnt.of_eq rfl

theorem dEnergy_ok : Holds Proofs.Try.prog G0 44 (int1C (fun n => rng n 0 10000000000000)) := by
  refine Holds.of_exC D44 Proofs.Try.func44 rfl foll (by kernel_rfl) (tab [(73, withinC)]) (tab_ok ⟨dWithin_ok, trivial⟩) G0_ok fun k0 rl args hpu hpre => ?_
  unfold int1C at hpre ⊢
  split at hpre
  rotate_left
  · exact hpre.elim
  simp only [Proofs.Try.f44]
  simp (maxSteps := 4000000) only [go_sem, ↓op_move, ↓op_assign, ↓op_pick, ↓op_alloc, ↓op_box, ↓op_build, ↓op_buildSlice, ↓op_load, ↓op_store, ↓op_nilCheck, ↓op_bin, ↓op_un, ↓op_convert, ↓op_makeFunc, ↓op_makeSlice, ↓op_slice, ↓op_fieldAddr, ↓op_field, ↓op_indexAddr, ↓op_index, ↓op_extract, ↓op_range, ↓op_next, ↓op_call, ↓op_builtin, ↓g_tt, ↓g_ff, ↓g_tf, ↓g_ft, ↓g_tnt, ↓g_tnf, ↓g_fnt, ↓g_fnf]
  exact VEnt.of_eq rfl

theorem aIv_ok : Holds Proofs.Try.prog G0 90 intervalC := by
  refine Holds.of_exC D90 Proofs.Try.func90 rfl foll (by kernel_rfl) (tab [(48, firstC), (57, whenC), (60, withinC), (iceKey 2, iceC)]) (tab_ok ⟨aFirst_ok, aWhen_ok, aWithin_ok, ice_holds, trivial⟩) G0_ok fun k0 rl args hpu hpre => ?_
  unfold intervalC at hpre ⊢
  split at hpre
  rotate_left
  · exact hpre.elim
  simp only [Proofs.Try.f90]
  simp (maxSteps := 4000000) only [go_sem, ↓op_move, ↓op_assign, ↓op_pick, ↓op_alloc, ↓op_box, ↓op_build, ↓op_buildSlice, ↓op_load, ↓op_store, ↓op_nilCheck, ↓op_bin, ↓op_un, ↓op_convert, ↓op_makeFunc, ↓op_makeSlice, ↓op_slice, ↓op_fieldAddr, ↓op_field, ↓op_indexAddr, ↓op_index, ↓op_extract, ↓op_range, ↓op_next, ↓op_call, ↓op_builtin, ↓g_tt, ↓g_ff, ↓g_tf, ↓g_ft, ↓g_tnt, ↓g_tnf, ↓g_fnt, ↓g_fnf]
  exact VEnt.of_eq rfl

theorem rIv_ok : Holds Proofs.Try.prog G0 62 intervalC := by
  refine Holds.of_exC D62 Proofs.Try.func62 rfl foll (by kernel_rfl) (tab [(26, firstC), (30, withinC), (32, whenC), (iceKey 2, iceC)]) (tab_ok ⟨qFirst_ok, qRange_ok, qWhen_ok, ice_holds, trivial⟩) G0_ok fun k0 rl args hpu hpre => ?_
  unfold intervalC at hpre ⊢
  split at hpre
  rotate_left
  · exact hpre.elim
  simp only [Proofs.Try.f62]
  simp (maxSteps := 4000000) only [go_sem, ↓op_move, ↓op_assign, ↓op_pick, ↓op_alloc, ↓op_box, ↓op_build, ↓op_buildSlice, ↓op_load, ↓op_store, ↓op_nilCheck, ↓op_bin, ↓op_un, ↓op_convert, ↓op_makeFunc, ↓op_makeSlice, ↓op_slice, ↓op_fieldAddr, ↓op_field, ↓op_indexAddr, ↓op_index, ↓op_extract, ↓op_range, ↓op_next, ↓op_call, ↓op_builtin, ↓g_tt, ↓g_ff, ↓g_tf, ↓g_ft, ↓g_tnt, ↓g_tnf, ↓g_fnt, ↓g_fnf]
  exact VEnt.of_eq rfl

theorem aIv1_ok : Holds Proofs.Try.prog G0 89 (ivC 1000) := by
  refine Holds.of_exC D89 Proofs.Try.func89 rfl foll (by kernel_rfl) (tab [(90, intervalC), (iceKey 1, iceC)]) (tab_ok ⟨aIv_ok, ice_holds, trivial⟩) G0_ok fun k0 rl args hpu hpre => ?_
  unfold ivC at hpre ⊢
  split at hpre
  rotate_left
  · exact hpre.elim
  simp only [Proofs.Try.f89]
  simp (maxSteps := 4000000) only [go_sem, ↓op_move, ↓op_assign, ↓op_pick, ↓op_alloc, ↓op_box, ↓op_build, ↓op_buildSlice, ↓op_load, ↓op_store, ↓op_nilCheck, ↓op_bin, ↓op_un, ↓op_convert, ↓op_makeFunc, ↓op_makeSlice, ↓op_slice, ↓op_fieldAddr, ↓op_field, ↓op_indexAddr, ↓op_index, ↓op_extract, ↓op_range, ↓op_next, ↓op_call, ↓op_builtin, ↓g_tt, ↓g_ff, ↓g_tf, ↓g_ft, ↓g_tnt, ↓g_tnf, ↓g_fnt, ↓g_fnf]
  exact VEnt.of_eq rfl

theorem aIv2_ok : Holds Proofs.Try.prog G0 89 (ivC 1000) := by
  refine Holds.of_exC D89 Proofs.Try.func89 rfl foll (by kernel_rfl) (tab [(90, intervalC), (iceKey 1, iceC)]) (tab_ok ⟨aIv_ok, ice_holds, trivial⟩) G0_ok fun k0 rl args hpu hpre => ?_
  unfold ivC at hpre ⊢
  split at hpre
  rotate_left
  · exact hpre.elim
  simp only [Proofs.Try.f89]
  simp (maxSteps := 4000000) only [go_sem, ↓op_move, ↓op_assign, ↓op_pick, ↓op_alloc, ↓op_box, ↓op_build, ↓op_buildSlice, ↓op_load, ↓op_store, ↓op_nilCheck, ↓op_bin, ↓op_un, ↓op_convert, ↓op_makeFunc, ↓op_makeSlice, ↓op_slice, ↓op_fieldAddr, ↓op_field, ↓op_indexAddr, ↓op_index, ↓op_extract, ↓op_range, ↓op_next, ↓op_call, ↓op_builtin, ↓g_tt, ↓g_ff, ↓g_tf, ↓g_ft, ↓g_tnt, ↓g_tnf, ↓g_fnt, ↓g_fnf]
  exact VEnt.of_eq rfl
end Go.Fly.Try
