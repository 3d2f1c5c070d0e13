/- The verifier: whether a town fits; the fixed example. -/
import Derived.Test.YtfpoimbidpojnaaDoorSYEEG
import Derived.Test.YtfpoimbidpojnaaDoorSYEEF
import Derived.Test.YtfpoimbidpojnaaDoorSYEEE
import Derived.Test.YtfpoimbidpojnaaDoorSYEBG
import Derived.Test.YtfpoimbidpojnaaDoorAR
set_option linter.unusedSimpArgs false
set_option linter.unusedVariables false
set_option maxRecDepth 100000
set_option maxHeartbeats 4000000
namespace Go.Fly.Tryd
open Go

theorem aLen2_ok : Holds Proofs.Tryd.prog G0 11 airLen2C := by
  refine Holds.of_exC D11 Proofs.Tryd.func11 rfl foll (by kernel_rfl) (tab [(30, pathC), (31, rootsC), (32, straightC), (iceKey 1, iceC)]) (tab_ok ⟨aPath_ok, aRoots_ok, aStraight_ok, ice_holds, trivial⟩) G0_ok fun k0 rl args hpu hpre => ?_
  unfold airLen2C at hpre ⊢
  split at hpre
  rotate_left
  · exact hpre.elim
  rename_i a b c d e f
  have hp := hpre
  have hp0 := pathE_zero.2 hp
  have hsq := sqE_bd hp
  simp only [Proofs.Tryd.f11]
  rw [enter_mkT (Nat.le_of_ble_eq_true rfl)]
  simp (maxSteps := 4000000) only [go_sem, ↓op_move, ↓op_assign, ↓op_pick, ↓op_alloc, ↓op_box, ↓op_build, ↓op_buildSlice, ↓op_load, ↓op_store, ↓op_nilCheck, ↓op_bin, ↓op_un, ↓op_convert, ↓op_makeFunc, ↓op_makeSlice, ↓op_slice, ↓op_fieldAddr, ↓op_field, ↓op_indexAddr, ↓op_index, ↓op_extract, ↓op_lookup, ↓op_mapUpdate, ↓op_makeMap, ↓op_range, ↓op_next, ↓op_call, ↓op_builtin, ↓g_tt, ↓g_ff, ↓g_tf, ↓g_ft, ↓g_tnt, ↓g_tnf, ↓g_fnt, ↓g_fnf, ↓mkT_getD, hp0]
  exact ⟨hp, ⟨hsq.1, by omega⟩, VEnt.of_eq rfl⟩

theorem vFits_ok : Holds Proofs.Tryd.prog G0 5 townFitsC := by
  refine Holds.of_exC D5 Proofs.Tryd.func5 rfl foll (by kernel_rfl) (tab [(15, shortWallsC), (16, wallsC), (17, tableC), (18, shortAirC), (19, airC), (20, spots2C), (21, withinC), (iceKey 1, iceC)]) (tab_ok ⟨rShortW_ok, rWalls_ok, rTable_ok, rAirShort_ok, rAir_ok, rSpots_ok, qRange_ok, ice_holds, trivial⟩) G0_ok fun k0 rl args hpu hpre => ?_
  unfold townFitsC at hpre ⊢
  split at hpre
  rotate_left
  · exact hpre.elim
  rename_i nw sw gw nt st gt na sa ga a b c d e f en
  obtain ⟨⟨rfl, rfl, rfl⟩, hw, ht, ha⟩ := hpre
  have hp1 := hw.pu
  have hp2 := ht.pu
  have hp3 := ha.pu
  obtain ⟨F, hF⟩ : ∃ F, fitsT nw gw nt gt na ga a b c d e f en = F := ⟨_, rfl⟩
  have no : F = false → VEnt (.bool false) (.bool F) := fun h => VEnt.of_eq (by rw [h])
  simp only [Proofs.Tryd.f5]
  rw [enter_mkT (Nat.le_of_ble_eq_true rfl)]
  simp (maxSteps := 4000000) only [go_sem, ↓op_move, ↓op_assign, ↓op_pick, ↓op_alloc, ↓op_box, ↓op_build, ↓op_buildSlice, ↓op_load, ↓op_store, ↓op_nilCheck, ↓op_bin, ↓op_un, ↓op_convert, ↓op_makeFunc, ↓op_makeSlice, ↓op_slice, ↓op_fieldAddr, ↓op_field, ↓op_indexAddr, ↓op_index, ↓op_extract, ↓op_lookup, ↓op_mapUpdate, ↓op_makeMap, ↓op_range, ↓op_next, ↓op_call, ↓op_builtin, ↓g_tt, ↓g_ff, ↓g_tf, ↓g_ft, ↓g_tnt, ↓g_tnf, ↓g_fnt, ↓g_fnf, ↓mkT_getD, hp1, hp2, hp3, hF]
  unfold fitsT at hF
  refine ⟨fun h1 => ⟨hw, fun h2 => ⟨hw, fun h3 => ⟨fun h4 => ⟨ht, fun h5 => ⟨ha, fun h6 => ⟨ha, fun h7 => ⟨fun h8 => ⟨fun h9 => VEnt.of_eq ?_, fun h9 => no ?_⟩, fun h8 => no ?_⟩, fun h7 => no ?_⟩, fun h6 => no ?_⟩, fun h5 => no ?_⟩, fun h4 => no ?_⟩, fun h3 => no ?_⟩, fun h2 => no ?_⟩, fun h1 => no ?_⟩
  · rw [← hF]; simp only [h1, h2, h3, h4, h5, h6, h7, h8, h9, decide_true, Bool.true_and]
  all_goals
    rw [← hF]; simp [*]

theorem vWay_ok : Holds Proofs.Tryd.prog G0 4 trueC := by
  refine Holds.of_exC D4 Proofs.Tryd.func4 rfl foll (by kernel_rfl) (tab [(11, airLen2C), (12, length2C), (13, screen2C), (14, arrived2C), (iceKey 26, iceC), (iceKey 30, iceC), (iceKey 41, iceC), (iceKey 43, iceC), (iceKey 45, iceC)]) (tab_ok ⟨aLen2_ok, tLength2_ok, tScreen2_ok, aArrived_ok, ice_holds, ice_holds, ice_holds, ice_holds, ice_holds, trivial⟩) G0_ok fun k0 rl args hpu hpre => ?_
  unfold trueC at hpre ⊢
  split at hpre
  rotate_left
  · exact hpre.elim
  have p1 : Pu (.sl 1 7 wayW) := wayW_is.pu
  have p2 : Pu (.sl 1 2 wayT) := wayT_is.pu
  have p3 : Pu (.sl 1 2 wayP) := wayP_is.pu
  have p4 : Pu (.sl 1 5 wayA) := wayA_is.pu
  have p5 : Pu (.sl 1 1 wayE) := wayE_is.pu
  have d1 : decide ((12 : Int) = 12) = true := rfl
  have d2 : decide ((13 : Int) = 13) = true := rfl
  have d3 : decide ((800 : Int) = 800) = true := rfl
  have d4 : decide ((720 : Int) = 720) = true := rfl
  simp only [Proofs.Tryd.f4]
  rw [enter_mkT (Nat.le_of_ble_eq_true rfl)]
  simp (maxSteps := 4000000) only [go_sem, ↓op_move, ↓op_assign, ↓op_pick, ↓op_alloc, ↓op_box, ↓op_build, ↓op_buildSlice, ↓op_load, ↓op_store, ↓op_nilCheck, ↓op_bin, ↓op_un, ↓op_convert, ↓op_makeFunc, ↓op_makeSlice, ↓op_slice, ↓op_fieldAddr, ↓op_field, ↓op_indexAddr, ↓op_index, ↓op_extract, ↓op_lookup, ↓op_mapUpdate, ↓op_makeMap, ↓op_range, ↓op_next, ↓op_call, ↓op_builtin, ↓g_tt, ↓g_ff, ↓g_tf, ↓g_ft, ↓g_tnt, ↓g_tnf, ↓g_fnt, ↓g_fnf, ↓mkT_getD, wayW_eq, wayT_eq, wayP_eq, wayA_eq, wayE_eq, p1, p2, p3, p4, p5, way1, way2, way3, way4, way5, way6, way7, way8, d1, d2, d3, d4]
  exact ⟨way9, ⟨wayW_is, wayW_ok, wayT_is, wayT_ok, way10, way11⟩, ⟨wayA_is, wayA_ae, way9, wayE_is, wayA_in.symm, one_case (by rw [wayE_at]; decide)⟩, VEnt.of_eq rfl⟩
end Go.Fly.Tryd
