/- The reference's winds and rays, and the law on them. -/
import Derived.Test.YtmlknpghkclffaaGreatDoorSYAHA
import Derived.Test.YtmlknpghkclffaaGreatDoorAY
set_option linter.unusedSimpArgs false
set_option linter.unusedVariables false
set_option maxRecDepth 100000
set_option maxHeartbeats 8000000
namespace Go.Fly.Tryz
open Go

theorem rAlong_ok : Holds Proofs.Tryz.prog G0 51 alongC := by
  refine Holds.of_exC D51 Proofs.Tryz.func51 rfl foll (by kernel_rfl) (tab [(22, firstC), (23, withinC), (81, whenC), (iceKey 1, iceC)]) (tab_ok ⟨qFirst_ok, qRange_ok, qWhen_ok, ice_holds, trivial⟩) G0_ok fun k0 rl args hpu hpre => ?_
  unfold alongC at hpre ⊢
  split at hpre
  rotate_left
  · exact hpre.elim
  simp only [Proofs.Tryz.f51]
  rw [enter_mkT (Nat.le_of_ble_eq_true rfl)]
  simp (maxSteps := 4000000) only [go_sem, ↓op_move, ↓op_assign, ↓op_pick, ↓op_alloc, ↓op_box, ↓op_build, ↓op_buildSlice, ↓op_load, ↓op_store, ↓op_nilCheck, ↓op_bin, ↓op_un, ↓op_convert, ↓op_makeFunc, ↓op_makeSlice, ↓op_slice, ↓op_fieldAddr, ↓op_field, ↓op_indexAddr, ↓op_index, ↓op_extract, ↓op_lookup, ↓op_mapUpdate, ↓op_makeMap, ↓op_range, ↓op_next, ↓op_call, ↓op_builtin, ↓g_tt, ↓g_ff, ↓g_tf, ↓g_ft, ↓g_tnt, ↓g_tnf, ↓g_fnt, ↓g_fnf, ↓mkT_getD]
  exact VEnt.refl _

theorem rLix_ok : Holds Proofs.Tryz.prog G0 52 lixC := by
  refine Holds.of_exC D52 Proofs.Tryz.func52 rfl foll (by kernel_rfl) (tab [(81, whenC)]) (tab_ok ⟨qWhen_ok, trivial⟩) G0_ok fun k0 rl args hpu hpre => ?_
  unfold lixC at hpre ⊢
  split at hpre
  rotate_left
  · exact hpre.elim
  rename_i n sz get i
  simp only [Proofs.Tryz.f52]
  rw [enter_mkT (Nat.le_of_ble_eq_true rfl)]
  simp (maxSteps := 4000000) only [go_sem, ↓op_move, ↓op_assign, ↓op_pick, ↓op_alloc, ↓op_box, ↓op_build, ↓op_buildSlice, ↓op_load, ↓op_store, ↓op_nilCheck, ↓op_bin, ↓op_un, ↓op_convert, ↓op_makeFunc, ↓op_makeSlice, ↓op_slice, ↓op_fieldAddr, ↓op_field, ↓op_indexAddr, ↓op_index, ↓op_extract, ↓op_lookup, ↓op_mapUpdate, ↓op_makeMap, ↓op_range, ↓op_next, ↓op_call, ↓op_builtin, ↓g_tt, ↓g_ff, ↓g_tf, ↓g_ft, ↓g_tnt, ↓g_tnf, ↓g_fnt, ↓g_fnf, ↓mkT_getD, hpre]
  refine ⟨fun h => VEnt.of_eq ?_, fun h => VEnt.of_eq ?_⟩ <;> simp [lixE, h]

theorem rSign_ok : Holds Proofs.Tryz.prog G0 123 signC := by
  refine Holds.of_exC D123 Proofs.Tryz.func123 rfl foll (by kernel_rfl) (tab []) (tab_ok trivial) G0_ok fun k0 rl args hpu hpre => ?_
  unfold signC at hpre ⊢
  split at hpre
  rotate_left
  · exact hpre.elim
  rename_i n
  simp only [Proofs.Tryz.f123]
  rw [enter_mkT (Nat.le_of_ble_eq_true rfl)]
  simp (maxSteps := 4000000) only [go_sem, ↓op_move, ↓op_assign, ↓op_pick, ↓op_alloc, ↓op_box, ↓op_build, ↓op_buildSlice, ↓op_load, ↓op_store, ↓op_nilCheck, ↓op_bin, ↓op_un, ↓op_convert, ↓op_makeFunc, ↓op_makeSlice, ↓op_slice, ↓op_fieldAddr, ↓op_field, ↓op_indexAddr, ↓op_index, ↓op_extract, ↓op_lookup, ↓op_mapUpdate, ↓op_makeMap, ↓op_range, ↓op_next, ↓op_call, ↓op_builtin, ↓g_tt, ↓g_ff, ↓g_tf, ↓g_ft, ↓g_tnt, ↓g_tnf, ↓g_fnt, ↓g_fnf, ↓mkT_getD]
  refine ⟨fun h => VEnt.of_eq ?_, fun h => ⟨fun h2 => VEnt.of_eq ?_, fun h2 => VEnt.of_eq ?_⟩⟩ <;> simp [sgnE, h] <;> omega

theorem rCmp_ok : Holds Proofs.Tryz.prog G0 53 cmpRC := by
  refine Holds.of_exC D53 Proofs.Tryz.func53 rfl foll (by kernel_rfl) (tab [(123, signC), (iceKey 7, iceC)]) (tab_ok ⟨rSign_ok, ice_holds, trivial⟩) G0_ok fun k0 rl args hpu hpre => ?_
  unfold cmpRC at hpre ⊢
  split at hpre
  rotate_left
  · exact hpre.elim
  rename_i n sz get i j x y
  obtain ⟨rfl, hair, hae, ⟨hi0, hi1⟩, ⟨hj0, hj1⟩, hx, hy, hxy⟩ := hpre
  obtain ⟨i, rfl⟩ := Int.eq_ofNat_of_zero_le hi0
  obtain ⟨j, rfl⟩ := Int.eq_ofNat_of_zero_le hj0
  have hp := hair.pu
  obtain ⟨hgi, hivi⟩ := hair.2 i (by omega)
  obtain ⟨hgj, hivj⟩ := hair.2 j (by omega)
  have hpi := hivi.pu
  have hpj := hivj.pu
  have wi := airE_wind hae (show i < n by omega)
  have wj := airE_wind hae (show j < n by omega)
  have fb := fast_bd (s := cell get i 1 - cell get j 1) (u := cell get i 2 - cell get j 2) (v := cell get i 3 - cell get j 3) (ax := x) (ay := y) ⟨by omega, by omega⟩ ⟨by omega, by omega⟩ ⟨by omega, by omega⟩ hx hy
  have hD : 0 < x * x + y * y := by
    have h1 : x ≠ 0 → 0 < x * x := sq_zero
    have h2 : y ≠ 0 → 0 < y * y := sq_zero
    have h3 := sq_nn x
    have h4 := sq_nn y
    by_cases q : x = 0
    · have := h2 fun e => hxy ⟨q, e⟩
      omega
    · have := h1 q
      omega
  have hc := cmpR_eq (s := cell get i 1 - cell get j 1) (u := cell get i 2 - cell get j 2) (v := cell get i 3 - cell get j 3) hD
  unfold cmpV
  rw [Int.toNat_natCast, Int.toNat_natCast, ← hc]
  unfold cmpR
  have s1 := sgn_bd (cell get i 1 - cell get j 1)
  have s2 := sgn_bd ((cell get i 2 - cell get j 2) * x + (cell get i 3 - cell get j 3) * y)
  have s3 := sgn_bd ((cell get i 1 - cell get j 1) * (cell get i 1 - cell get j 1) * (x * x + y * y) - ((cell get i 2 - cell get j 2) * x + (cell get i 3 - cell get j 3) * y) * ((cell get i 2 - cell get j 2) * x + (cell get i 3 - cell get j 3) * y))
  have s4 := mul_abs_le (A := 1) (B := 1) s1.1 s1.2 s2.1 s2.2
  have s5 := mul_abs_le (A := 1) (B := 1) s1.1 s1.2 s3.1 s3.2
  by_cases hc0 : 0 ≤ sgnE (cell get i 1 - cell get j 1) * sgnE ((cell get i 2 - cell get j 2) * x + (cell get i 3 - cell get j 3) * y)
  · have hd := decide_eq_true hc0
    rw [if_pos hc0]
    simp only [Proofs.Tryz.f53]
    rw [enter_mkT (Nat.le_of_ble_eq_true rfl)]
    simp (maxSteps := 4000000) only [go_sem, ↓op_move, ↓op_assign, ↓op_pick, ↓op_alloc, ↓op_box, ↓op_build, ↓op_buildSlice, ↓op_load, ↓op_store, ↓op_nilCheck, ↓op_bin, ↓op_un, ↓op_convert, ↓op_makeFunc, ↓op_makeSlice, ↓op_slice, ↓op_fieldAddr, ↓op_field, ↓op_indexAddr, ↓op_index, ↓op_extract, ↓op_lookup, ↓op_mapUpdate, ↓op_makeMap, ↓op_range, ↓op_next, ↓op_call, ↓op_builtin, ↓g_tt, ↓g_ff, ↓g_tf, ↓g_ft, ↓g_tnt, ↓g_tnf, ↓g_fnt, ↓g_fnf, ↓mkT_getD, hp, hgi, hgj, hpi, hpj, Int.toNat_natCast, hd]
    exact ⟨⟨by omega, by omega⟩, ⟨by omega, by omega⟩, inK_of (by omega) (by omega), ⟨by omega, by omega⟩, ⟨by omega, by omega⟩, inK_of (by omega) (by omega), inK_of (by omega) (by omega), ⟨by omega, by omega⟩, ⟨by omega, by omega⟩, inK_of (by omega) (by omega), inK_of (by omega) (by omega), inK_of (by omega) (by omega), inK_of (by omega) (by omega), inK_of (by omega) (by omega), VEnt.refl _⟩
  · have hd := decide_eq_false hc0
    rw [if_neg hc0]
    simp only [Proofs.Tryz.f53]
    rw [enter_mkT (Nat.le_of_ble_eq_true rfl)]
    simp (maxSteps := 4000000) only [go_sem, ↓op_move, ↓op_assign, ↓op_pick, ↓op_alloc, ↓op_box, ↓op_build, ↓op_buildSlice, ↓op_load, ↓op_store, ↓op_nilCheck, ↓op_bin, ↓op_un, ↓op_convert, ↓op_makeFunc, ↓op_makeSlice, ↓op_slice, ↓op_fieldAddr, ↓op_field, ↓op_indexAddr, ↓op_index, ↓op_extract, ↓op_lookup, ↓op_mapUpdate, ↓op_makeMap, ↓op_range, ↓op_next, ↓op_call, ↓op_builtin, ↓g_tt, ↓g_ff, ↓g_tf, ↓g_ft, ↓g_tnt, ↓g_tnf, ↓g_fnt, ↓g_fnf, ↓mkT_getD, hp, hgi, hgj, hpi, hpj, Int.toNat_natCast, hd]
    exact ⟨⟨by omega, by omega⟩, ⟨by omega, by omega⟩, inK_of (by omega) (by omega), ⟨by omega, by omega⟩, ⟨by omega, by omega⟩, inK_of (by omega) (by omega), inK_of (by omega) (by omega), ⟨by omega, by omega⟩, ⟨by omega, by omega⟩, inK_of (by omega) (by omega), inK_of (by omega) (by omega), inK_of (by omega) (by omega), inK_of (by omega) (by omega), inK_of (by omega) (by omega), inK_of (by omega) (by omega), inK_of (by omega) (by omega), inK_of (by omega) (by omega), inK_of (by omega) (by omega), inK_of (by omega) (by omega), inK_of (by omega) (by omega), inK_of (by omega) (by omega), VEnt.refl _⟩

end Go.Fly.Tryz
