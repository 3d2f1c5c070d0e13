/- The law: over walls and through the air, there and back. -/
import Derived.Test.YtfpoimbidpojnaaGreatDoorSYZEH
import Derived.Test.YtfpoimbidpojnaaGreatDoorAU
set_option linter.unusedSimpArgs false
set_option linter.unusedVariables false
set_option maxRecDepth 100000
set_option maxHeartbeats 8000000
namespace Go.Fly.Tryz
open Go

theorem vSame_ok : Holds Proofs.Tryz.prog G0 13 sameC := by
  refine Holds.of_exC D13 Proofs.Tryz.func13 rfl foll (by kernel_rfl) (tab []) (tab_ok trivial) G0_ok fun k0 rl args hpu hpre => ?_
  unfold sameC at hpre ⊢
  split at hpre
  rotate_left
  · exact hpre.elim
  rename_i n sz a n' sz' b
  obtain ⟨rfl, rfl, rfl, ha, hb, he⟩ := hpre
  have hp1 := ha.pu
  have hp2 := hb.pu
  have hnn := ha.1
  have hdd : decide ((n' : Int) = (n' : Int)) = true := decide_eq_true rfl
  simp only [Proofs.Tryz.f13]
  rw [enter_mkT (Nat.le_of_ble_eq_true rfl)]
  simp (maxSteps := 4000000) only [go_sem, ↓op_move, ↓op_assign, ↓op_pick, ↓op_alloc, ↓op_box, ↓op_build, ↓op_buildSlice, ↓op_load, ↓op_store, ↓op_nilCheck, ↓op_bin, ↓op_un, ↓op_convert, ↓op_makeFunc, ↓op_makeSlice, ↓op_slice, ↓op_fieldAddr, ↓op_field, ↓op_indexAddr, ↓op_index, ↓op_extract, ↓op_lookup, ↓op_mapUpdate, ↓op_makeMap, ↓op_range, ↓op_next, ↓op_call, ↓op_builtin, ↓g_tt, ↓g_ff, ↓g_tf, ↓g_ft, ↓g_tnt, ↓g_tnf, ↓g_fnt, ↓g_fnf, ↓mkT_getD, hp1, hp2, hdd]
  refine RestT.loopF (β := Nat) [(4, 5), (11, 25)] (fun i => [(5, .int .i64 i)]) (fun _ => fun _ => none) (fun i => i ≤ n') (fun i => n' - i) 0 (Nat.zero_le _) ?_ HpLe.none ?_
  · simp (maxSteps := 4000000) only [go_sem, ↓op_move, ↓op_assign, ↓op_pick, ↓op_alloc, ↓op_box, ↓op_build, ↓op_buildSlice, ↓op_load, ↓op_store, ↓op_nilCheck, ↓op_bin, ↓op_un, ↓op_convert, ↓op_makeFunc, ↓op_makeSlice, ↓op_slice, ↓op_fieldAddr, ↓op_field, ↓op_indexAddr, ↓op_index, ↓op_extract, ↓op_lookup, ↓op_mapUpdate, ↓op_makeMap, ↓op_range, ↓op_next, ↓op_call, ↓op_builtin, ↓g_tt, ↓g_ff, ↓g_tf, ↓g_ft, ↓g_tnt, ↓g_tnf, ↓g_fnt, ↓g_fnf, ↓mkT_getD]
    try exact rfl
  · intro ck i hck hi
    generalize hq0 : exC _ _ _ _ _ = gg
    by_cases hlt : i < n'
    · have hd : decide ((i : Int) < (n' : Int)) = true := by simp; omega
      have hga := ha.2 i hlt
      have hgb := hb.2 i hlt
      obtain ⟨h1, h2⟩ := he i hlt
      rw [h1, h2] at hga
      have q1 : decide (cell b i 0 = cell b i 0) = true := decide_eq_true rfl
      have q2 : decide (cell b i 1 = cell b i 1) = true := decide_eq_true rfl
      rw [← hq0]
      clear hq0
      simp (maxSteps := 4000000) only [go_sem, ↓op_move, ↓op_assign, ↓op_pick, ↓op_alloc, ↓op_box, ↓op_build, ↓op_buildSlice, ↓op_load, ↓op_store, ↓op_nilCheck, ↓op_bin, ↓op_un, ↓op_convert, ↓op_makeFunc, ↓op_makeSlice, ↓op_slice, ↓op_fieldAddr, ↓op_field, ↓op_indexAddr, ↓op_index, ↓op_extract, ↓op_lookup, ↓op_mapUpdate, ↓op_makeMap, ↓op_range, ↓op_next, ↓op_call, ↓op_builtin, ↓g_tt, ↓g_ff, ↓g_tf, ↓g_ft, ↓g_tnt, ↓g_tnf, ↓g_fnt, ↓g_fnf, ↓mkT_getD, hd, hga, hgb, hp1, hp2, q1, q2]
      exact ⟨⟨by omega, by omega⟩, ⟨by omega, by omega⟩, inK_of (by omega) (by omega), by omega, i + 1, hlt, by omega, rfl, HpLe.none⟩
    · have hd : decide ((i : Int) < (n' : Int)) = false := by simp; omega
      rw [← hq0]
      clear hq0
      simp (maxSteps := 4000000) only [go_sem, ↓op_move, ↓op_assign, ↓op_pick, ↓op_alloc, ↓op_box, ↓op_build, ↓op_buildSlice, ↓op_load, ↓op_store, ↓op_nilCheck, ↓op_bin, ↓op_un, ↓op_convert, ↓op_makeFunc, ↓op_makeSlice, ↓op_slice, ↓op_fieldAddr, ↓op_field, ↓op_indexAddr, ↓op_index, ↓op_extract, ↓op_lookup, ↓op_mapUpdate, ↓op_makeMap, ↓op_range, ↓op_next, ↓op_call, ↓op_builtin, ↓g_tt, ↓g_ff, ↓g_tf, ↓g_ft, ↓g_tnt, ↓g_tnf, ↓g_fnt, ↓g_fnf, ↓mkT_getD, hd, hp1, hp2]
      exact VEnt.of_eq rfl

end Go.Fly.Tryz
