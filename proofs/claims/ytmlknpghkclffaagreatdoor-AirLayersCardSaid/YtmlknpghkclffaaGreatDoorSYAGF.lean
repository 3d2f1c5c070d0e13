/- What arrives, at any input. -/
import Derived.Test.YtmlknpghkclffaaGreatDoorSYAGE
import Derived.Test.YtmlknpghkclffaaGreatDoorAP
set_option linter.unusedSimpArgs false
set_option linter.unusedVariables false
set_option maxRecDepth 100000
set_option maxHeartbeats 2000000
namespace Go.Fly.Tryz
open Go

theorem gArr_ok : Holds Proofs.Tryz.prog G0 41 arr3C := by
  refine Holds.of_exC D41 Proofs.Tryz.func41 rfl foll (by kernel_rfl) (tab [(97, straightC), (98, checkC), (99, steps2C), (105, passedC), (109, energiesC), (110, arrivedC), (iceKey 4, iceC)]) (tab_ok ⟨aStraight_ok, aCheck_ok, gSteps_ok, aPassed_ok, aEnergies_ok, aArr_ok, ice_holds, trivial⟩) G0_ok fun k0 rl args hpu hpre => ?_
  unfold arr3C at hpre ⊢
  split at hpre
  rotate_left
  · exact hpre.elim
  rename_i n sz get a b c d e f n' sz' en
  obtain ⟨rfl, hair, rfl, hen, hn'⟩ := hpre
  have hp := hair.pu
  have hpe := hen.pu
  by_cases hck : checkE n get a b c d e f = 0
  · obtain ⟨hae, hpath⟩ := checkE_zero.1 hck
    have hok := airE_ok hae
    obtain ⟨hg0, hiv0⟩ := hair.2 0 hok.cnt.1
    have hp0 := hiv0.pu
    by_cases hce : energiesE n' en (inN get 0 4) 10000000000000 = 0
    · have hz := firstL_zero.1 hce
      have hnn : n' = inN get 0 4 := by
        have := hz (err (!decide ((n' : Int) = (inN get 0 4 : Int))) 2) (by simp)
        rw [err_zero (by decide)] at this
        simp at this
        omega
      have hb := rngs_zero.1 (hz (rngs n' en 0 10000000000000) (by simp))
      have hsq := sqE_bd hpath
      have hst := fun i => stG_bd (n := n) (get := get) (flat := c) (sq := sqE a b c d e f) (y0 := 0) (y1 := 0) ⟨hsq.1, by omega⟩ (show min c f ≤ max c f by omega) (Int.le_refl 0) i
      have hpb := fun i hi => d_bd (k := i) hok hpath hi
      obtain ⟨⟨q1, q2, q3⟩, ⟨q4, q5, q6⟩, q7⟩ := id hpath
      have hb8 := hok.bands
      have hcn := hok.cnt
      have hE : arr3E n get a b c d e f n' en = 0 := by unfold arr3E; rw [if_neg (by simp [hck])]; exact hce
      subst hnn
      simp only [Proofs.Tryz.f41]
      rw [enter_mkT (Nat.le_of_ble_eq_true rfl)]
      simp (maxSteps := 4000000) only [go_sem, ↓op_move, ↓op_assign, ↓op_pick, ↓op_alloc, ↓op_box, ↓op_build, ↓op_buildSlice, ↓op_load, ↓op_store, ↓op_nilCheck, ↓op_bin, ↓op_un, ↓op_convert, ↓op_makeFunc, ↓op_makeSlice, ↓op_slice, ↓op_fieldAddr, ↓op_field, ↓op_indexAddr, ↓op_index, ↓op_extract, ↓op_lookup, ↓op_mapUpdate, ↓op_makeMap, ↓op_range, ↓op_next, ↓op_call, ↓op_builtin, ↓g_tt, ↓g_ff, ↓g_tf, ↓g_ft, ↓g_tnt, ↓g_tnf, ↓g_fnt, ↓g_fnf, ↓mkT_getD, hp, hpe, hg0, hp0, hck, hce]
      rw [orE_no hE]
      refine ⟨hair, by omega, ⟨hen, by omega⟩, hpath, ⟨hair, hok, ⟨hsq.1, by omega⟩, by omega, by omega, by omega, by omega, by omega⟩, ⟨hair, hok, isIv_fn _ _ hair.1, fun i hi => ?_⟩, ⟨isIv_fn _ _ (by omega), hen, by omega, fun i hi => ?_⟩, VEnt.of_eq rfl⟩
      · have := hst i
        omega
      · have h1 := hpb i hi
        have h2 := hb i hi
        unfold dLo dHi qLo qHi at h1
        omega
    · have hd : decide (energiesE n' en (inN get 0 4) 10000000000000 = 0) = false := decide_eq_false hce
      have hE : arr3E n get a b c d e f n' en = energiesE n' en (inN get 0 4) 10000000000000 := by unfold arr3E; rw [if_neg (by simp [hck])]
      have hcn := hok.cnt
      simp only [Proofs.Tryz.f41]
      rw [enter_mkT (Nat.le_of_ble_eq_true rfl)]
      simp (maxSteps := 4000000) only [go_sem, ↓op_move, ↓op_assign, ↓op_pick, ↓op_alloc, ↓op_box, ↓op_build, ↓op_buildSlice, ↓op_load, ↓op_store, ↓op_nilCheck, ↓op_bin, ↓op_un, ↓op_convert, ↓op_makeFunc, ↓op_makeSlice, ↓op_slice, ↓op_fieldAddr, ↓op_field, ↓op_indexAddr, ↓op_index, ↓op_extract, ↓op_lookup, ↓op_mapUpdate, ↓op_makeMap, ↓op_range, ↓op_next, ↓op_call, ↓op_builtin, ↓g_tt, ↓g_ff, ↓g_tf, ↓g_ft, ↓g_tnt, ↓g_tnf, ↓g_fnt, ↓g_fnf, ↓mkT_getD, hp, hpe, hg0, hp0, hck, hd]
      rw [hE, orE_err hce]
      exact ⟨hair, by omega, ⟨hen, hn'⟩, VEnt.refl _⟩
  · have hd : decide (checkE n get a b c d e f = 0) = false := decide_eq_false hck
    have hE : arr3E n get a b c d e f n' en = checkE n get a b c d e f := by unfold arr3E; rw [if_pos hck]
    simp only [Proofs.Tryz.f41]
    rw [enter_mkT (Nat.le_of_ble_eq_true rfl)]
    simp (maxSteps := 4000000) only [go_sem, ↓op_move, ↓op_assign, ↓op_pick, ↓op_alloc, ↓op_box, ↓op_build, ↓op_buildSlice, ↓op_load, ↓op_store, ↓op_nilCheck, ↓op_bin, ↓op_un, ↓op_convert, ↓op_makeFunc, ↓op_makeSlice, ↓op_slice, ↓op_fieldAddr, ↓op_field, ↓op_indexAddr, ↓op_index, ↓op_extract, ↓op_lookup, ↓op_mapUpdate, ↓op_makeMap, ↓op_range, ↓op_next, ↓op_call, ↓op_builtin, ↓g_tt, ↓g_ff, ↓g_tf, ↓g_ft, ↓g_tnt, ↓g_tnf, ↓g_fnt, ↓g_fnf, ↓mkT_getD, hp, hpe, hd]
    rw [hE, orE_err hck]
    exact ⟨hair, VEnt.refl _⟩
end Go.Fly.Tryz
