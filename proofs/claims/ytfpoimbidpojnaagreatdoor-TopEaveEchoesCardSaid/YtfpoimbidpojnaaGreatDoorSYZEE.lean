/- The air: opposite winds, copies; how paths are bent. -/
import Derived.Test.YtfpoimbidpojnaaGreatDoorSYZBL
import Derived.Test.YtfpoimbidpojnaaGreatDoorAQ
set_option linter.unusedSimpArgs false
set_option linter.unusedVariables false
set_option maxRecDepth 100000
set_option maxHeartbeats 2000000
namespace Go.Fly.Tryz
open Go

theorem eNan_ok : Holds Proofs.Tryz.prog G0 103 nanC := by
  refine Holds.of_exC D103 Proofs.Tryz.func103 rfl foll (by kernel_rfl) (tab []) (tab_ok trivial) G0_ok fun k0 rl args hpu hpre => ?_
  unfold nanC at hpre ⊢
  split at hpre
  rotate_left
  · exact hpre.elim
  simp only [Proofs.Tryz.f103]
  simp (maxSteps := 4000000) only [go_sem, ↓op_move, ↓op_assign, ↓op_pick, ↓op_alloc, ↓op_box, ↓op_build, ↓op_buildSlice, ↓op_load, ↓op_store, ↓op_nilCheck, ↓op_bin, ↓op_un, ↓op_convert, ↓op_makeFunc, ↓op_makeSlice, ↓op_slice, ↓op_fieldAddr, ↓op_field, ↓op_indexAddr, ↓op_index, ↓op_extract, ↓op_lookup, ↓op_mapUpdate, ↓op_makeMap, ↓op_range, ↓op_next, ↓op_call, ↓op_builtin, ↓g_tt, ↓g_ff, ↓g_tf, ↓g_ft, ↓g_tnt, ↓g_tnf, ↓g_fnt, ↓g_fnf, ↓mkT_getD]
  exact VEnt.of_eq (by simp)

theorem eCmp_ok : Holds Proofs.Tryz.prog G0 97 cmpC := by
  refine Holds.of_exC D97 Proofs.Tryz.func97 rfl foll (by kernel_rfl) (tab [(103, nanC)]) (tab_ok ⟨eNan_ok, trivial⟩) G0_ok fun k0 rl args hpu hpre => ?_
  unfold cmpC at hpre ⊢
  split at hpre
  rotate_left
  · exact hpre.elim
  simp only [Proofs.Tryz.f97]
  simp (maxSteps := 4000000) only [go_sem, ↓op_move, ↓op_assign, ↓op_pick, ↓op_alloc, ↓op_box, ↓op_build, ↓op_buildSlice, ↓op_load, ↓op_store, ↓op_nilCheck, ↓op_bin, ↓op_un, ↓op_convert, ↓op_makeFunc, ↓op_makeSlice, ↓op_slice, ↓op_fieldAddr, ↓op_field, ↓op_indexAddr, ↓op_index, ↓op_extract, ↓op_lookup, ↓op_mapUpdate, ↓op_makeMap, ↓op_range, ↓op_next, ↓op_call, ↓op_builtin, ↓g_tt, ↓g_ff, ↓g_tf, ↓g_ft, ↓g_tnt, ↓g_tnf, ↓g_fnt, ↓g_fnf, ↓mkT_getD]
  refine ⟨fun h => VEnt.of_eq (by simp [cmpE, h]), fun h => ⟨fun h2 => VEnt.of_eq (by simp [cmpE, h, h2]), fun h2 => VEnt.of_eq (by simp [cmpE, h, h2])⟩⟩

end Go.Fly.Tryz
