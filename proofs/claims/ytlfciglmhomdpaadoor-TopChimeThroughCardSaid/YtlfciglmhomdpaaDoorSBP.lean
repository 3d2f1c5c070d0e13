/- The air: what arrives. -/
import Derived.Test.YtlfciglmhomdpaaDoorSBN
import Derived.Test.YtlfciglmhomdpaaDoorSBM
import Derived.Test.YtlfciglmhomdpaaDoorAN
import Derived.Test.YtlfciglmhomdpaaDoorAP
set_option linter.unusedSimpArgs false
set_option linter.unusedVariables false
set_option maxRecDepth 100000
set_option maxHeartbeats 1000000
namespace Go.Fly.Tryd
open Go

theorem aArrived_ok : Holds Proofs.Tryd.prog G0 8 arrived2C := by
  refine Holds.of_exC D8 Proofs.Tryd.func8 rfl foll (by kernel_rfl) (tab [(21, checkC), (22, energiesC), (23, arrivedC), (24, passedC), (25, straightC), (26, stepsC), (iceKey 4, iceC)]) (tab_ok ⟨aCheck_ok, aEnergies_ok, aArr_ok, aPassed_ok, aStraight_ok, aSteps_ok, ice_holds, trivial⟩) G0_ok fun k0 rl args hpu hpre => ?_
  unfold arrived2C at hpre ⊢
  split at hpre
  rotate_left
  · exact hpre.elim
  rename_i n sz get a b c d e f n' sz' en
  obtain ⟨rfl, hair, hae, hpath, rfl, hen, rfl, hb⟩ := hpre
  have hok := airE_ok hae
  have hp := hair.pu
  have hpe := hen.pu
  obtain ⟨hg0, hiv0⟩ := hair.2 0 hok.cnt.1
  have hp0 := hiv0.pu
  have hck : checkE n get a b c d e f = 0 := by
    unfold checkE; rw [firstL_zero]; simp [hae, pathE_zero.2 hpath]
  have hce : energiesE (inN get 0 4) en (inN get 0 4 : Int) 10000000000000 = 0 := by
    unfold energiesE; rw [firstL_zero]; simp [err, rngs_zero]; exact hb
  have hsq := sqE_bd hpath
  have hst := fun i => step_bd (n := n) (get := get) (flat := c) hsq (show min c f ≤ max c f by omega) i
  have hpb := fun i hi => p_bd (k := i) hok hpath hi
  obtain ⟨⟨q1, q2, q3⟩, ⟨q4, q5, q6⟩, q7⟩ := id hpath
  have hb8 := hok.bands
  have hcn := hok.cnt
  simp only [Proofs.Tryd.f8]
  simp (maxSteps := 4000000) only [go_sem, ↓op_move, ↓op_assign, ↓op_pick, ↓op_alloc, ↓op_box, ↓op_build, ↓op_buildSlice, ↓op_load, ↓op_store, ↓op_nilCheck, ↓op_bin, ↓op_un, ↓op_convert, ↓op_makeFunc, ↓op_makeSlice, ↓op_slice, ↓op_fieldAddr, ↓op_field, ↓op_indexAddr, ↓op_index, ↓op_extract, ↓op_range, ↓op_next, ↓op_call, ↓op_builtin, ↓g_tt, ↓g_ff, ↓g_tf, ↓g_ft, ↓g_tnt, ↓g_tnf, ↓g_fnt, ↓g_fnf, hp, hpe, hg0, hp0, hck, hce]
  refine ⟨hair, by omega, ⟨hen, by omega⟩, hpath, ⟨hair, hok, hsq, by omega, by omega, by omega, by omega, by omega⟩, ⟨hair, hok, isIv_fn _ _ hair.1, fun i hi => ?_⟩, ⟨isIv_fn _ _ (by omega), hen, by omega, fun i hi => ?_⟩, VEnt.of_eq rfl⟩
  · have := hst i
    omega
  · have h1 := hpb i hi
    have h2 := hb i hi
    unfold pLo pHi at h1
    omega

theorem aEmitted_ok : Holds Proofs.Tryd.prog G0 10 emitted2C := by
  refine Holds.of_exC D10 Proofs.Tryd.func10 rfl foll (by kernel_rfl) (tab [(21, checkC), (24, passedC), (25, straightC), (26, stepsC), (27, firstC), (28, whenC), (29, mapIvC 96 30), (30, ivC 10000000000000), (32, emittedC), (iceKey 4, iceC)]) (tab_ok ⟨aCheck_ok, aPassed_ok, aStraight_ok, aSteps_ok, aFirst_ok, aWhen_ok, aMapIv_ok, aIv2_ok, aEm_ok, ice_holds, trivial⟩) G0_ok fun k0 rl args hpu hpre => ?_
  unfold emitted2C at hpre ⊢
  split at hpre
  rotate_left
  · exact hpre.elim
  rename_i n sz get a b c d e f n' sz' hd
  obtain ⟨rfl, hair, hae, hpath, rfl, hiv, rfl, hb⟩ := hpre
  have hok := airE_ok hae
  have hp := hair.pu
  have hpd := hiv.pu
  obtain ⟨hg0, hiv0⟩ := hair.2 0 hok.cnt.1
  have hp0 := hiv0.pu
  have hck : checkE n get a b c d e f = 0 := by
    unfold checkE; rw [firstL_zero]; simp [hae, pathE_zero.2 hpath]
  have hsq := sqE_bd hpath
  have hst := fun i => step_bd (n := n) (get := get) (flat := c) hsq (show min c f ≤ max c f by omega) i
  have hpb := fun i hi => p_bd (k := i) hok hpath hi
  obtain ⟨⟨q1, q2, q3⟩, ⟨q4, q5, q6⟩, q7⟩ := id hpath
  have hb8 := hok.bands
  have hcn := hok.cnt
  have hvz : firstI (fun i => ivE (cell hd i 0) (cell hd i 1) 10000000000000) 0 (inN get 0 4) = 0 := firstI_zero.2 fun i _ hi => ivE_zero.2 (by have := hb i (by omega); omega)
  have hfz : firstL [err false 2, 0] = 0 := rfl
  simp only [Proofs.Tryd.f10]
  simp (maxSteps := 4000000) only [go_sem, ↓op_move, ↓op_assign, ↓op_pick, ↓op_alloc, ↓op_box, ↓op_build, ↓op_buildSlice, ↓op_load, ↓op_store, ↓op_nilCheck, ↓op_bin, ↓op_un, ↓op_convert, ↓op_makeFunc, ↓op_makeSlice, ↓op_slice, ↓op_fieldAddr, ↓op_field, ↓op_indexAddr, ↓op_index, ↓op_extract, ↓op_range, ↓op_next, ↓op_call, ↓op_builtin, ↓g_tt, ↓g_ff, ↓g_tf, ↓g_ft, ↓g_tnt, ↓g_tnf, ↓g_fnt, ↓g_fnf, hp, hpd, hg0, hp0, hck, hvz, hfz]
  refine ⟨hair, by omega, ⟨hiv, by omega⟩, isInts_fn _ (by omega), hpath, ⟨hair, hok, hsq, by omega, by omega, by omega, by omega, by omega⟩, ⟨hair, hok, isIv_fn _ _ hair.1, fun i hi => by have := hst i; omega⟩, ?_⟩
  refine RestT.ents (Ents.nilArr (d := 10) (l := (8, 1000)) 2 (fun _ => []) rfl rfl rfl) ?_
  simp only [go_sem, ↓op_move, ↓op_assign, ↓op_pick, ↓op_alloc, ↓op_box, ↓op_build, ↓op_buildSlice, ↓op_load, ↓op_store, ↓op_nilCheck, ↓op_bin, ↓op_un, ↓op_convert, ↓op_makeFunc, ↓op_makeSlice, ↓op_slice, ↓op_fieldAddr, ↓op_field, ↓op_indexAddr, ↓op_index, ↓op_extract, ↓op_range, ↓op_next, ↓op_call, ↓op_builtin, ↓g_tt, ↓g_ff, ↓g_tf, ↓g_ft, ↓g_tnt, ↓g_tnf, ↓g_fnt, ↓g_fnf]
  refine RestT.loopI (β := Nat) [6, 7, 11, 12, 13, 45, 46, 47, 48, 49, 50, 51, 52, 53, 54, 55, 56, 57, 58, 59, 60, 61, 62, 63, 64] (fun i => [(10, .msl (8, 1000) 0 i), (44, .int .i64 i)]) (fun i => updH (fun _ => none) (8, 1000) (.arr i 2 (fun i => [.int .i64 (emLo (cell hd i 0) (pHi n get a b c d e f i)), .int .i64 (emHi (cell hd i 1) (pLo n get a b c d e f i))])))
    (fun i => i ≤ inN get 0 4) (fun i => inN get 0 4 - i) 0 (Nat.zero_le _) ?_ (HpLe.upd HpLe.none ⟨_, updH_same _ _ _, objLe_arr fun j hj => by omega⟩) ?_
  · simp (maxSteps := 4000000) only [go_sem, ↓op_move, ↓op_assign, ↓op_pick, ↓op_alloc, ↓op_box, ↓op_build, ↓op_buildSlice, ↓op_load, ↓op_store, ↓op_nilCheck, ↓op_bin, ↓op_un, ↓op_convert, ↓op_makeFunc, ↓op_makeSlice, ↓op_slice, ↓op_fieldAddr, ↓op_field, ↓op_indexAddr, ↓op_index, ↓op_extract, ↓op_range, ↓op_next, ↓op_call, ↓op_builtin, ↓g_tt, ↓g_ff, ↓g_tf, ↓g_ft, ↓g_tnt, ↓g_tnf, ↓g_fnt, ↓g_fnf]
  · intro ck i hck hi
    have hk0 : ¬ ck = 0 := by omega
    generalize hq0 : exC _ _ _ _ _ = gg
    by_cases hlt : i < inN get 0 4
    · have hdd : decide ((i : Int) < (inN get 0 4 : Int)) = true := by simp; omega
      have hg := hiv.2 i hlt
      have hbi := hb i hlt
      have hpi := hpb i hlt
      have hno : decide (emHi (cell hd i 1) (pLo n get a b c d e f i) < emLo (cell hd i 0) (pHi n get a b c d e f i)) = false := decide_eq_false (by omega)
      rw [← hq0]
      clear hq0
      simp (maxSteps := 4000000) only [go_sem, ↓op_move, ↓op_assign, ↓op_pick, ↓op_alloc, ↓op_box, ↓op_build, ↓op_buildSlice, ↓op_load, ↓op_store, ↓op_nilCheck, ↓op_bin, ↓op_un, ↓op_convert, ↓op_makeFunc, ↓op_makeSlice, ↓op_slice, ↓op_fieldAddr, ↓op_field, ↓op_indexAddr, ↓op_index, ↓op_extract, ↓op_range, ↓op_next, ↓op_call, ↓op_builtin, ↓g_tt, ↓g_ff, ↓g_tf, ↓g_ft, ↓g_tnt, ↓g_tnf, ↓g_fnt, ↓g_fnf, hdd, hg, hpd, hp, hk0, hno]
      unfold pLo pHi at hpi hbi
      refine ⟨⟨by omega, by omega⟩, ⟨by omega, by omega⟩, ⟨by omega, by omega, by omega, by omega, by omega, by omega, by omega, by omega⟩, fun h => absurd h (by omega), fun _ => ⟨⟨by omega, by omega, row_ok rfl ones2⟩, inK_of (by omega) (by omega), by omega, i + 1, hlt, by omega, ⟨rfl, rfl⟩, ?_⟩⟩
      refine HpLe.upd HpLe.none ⟨_, ?_, objLe_arr fun j hj => snoc (f := fun i => [V.int .i64 (emLo (cell hd i 0) (pHi n get a b c d e f i)), V.int .i64 (emHi (cell hd i 1) (pLo n get a b c d e f i))]) rfl rfl hj⟩
      simp (maxSteps := 4000000) only [go_sem, ↓op_move, ↓op_assign, ↓op_pick, ↓op_alloc, ↓op_box, ↓op_build, ↓op_buildSlice, ↓op_load, ↓op_store, ↓op_nilCheck, ↓op_bin, ↓op_un, ↓op_convert, ↓op_makeFunc, ↓op_makeSlice, ↓op_slice, ↓op_fieldAddr, ↓op_field, ↓op_indexAddr, ↓op_index, ↓op_extract, ↓op_range, ↓op_next, ↓op_call, ↓op_builtin, ↓g_tt, ↓g_ff, ↓g_tf, ↓g_ft, ↓g_tnt, ↓g_tnf, ↓g_fnt, ↓g_fnf, hk0]
      rfl
    · have hdd : decide ((i : Int) < (inN get 0 4 : Int)) = false := by simp; omega
      obtain rfl : i = inN get 0 4 := by omega
      rw [← hq0]
      clear hq0
      simp (maxSteps := 4000000) only [go_sem, ↓op_move, ↓op_assign, ↓op_pick, ↓op_alloc, ↓op_box, ↓op_build, ↓op_buildSlice, ↓op_load, ↓op_store, ↓op_nilCheck, ↓op_bin, ↓op_un, ↓op_convert, ↓op_makeFunc, ↓op_makeSlice, ↓op_slice, ↓op_fieldAddr, ↓op_field, ↓op_indexAddr, ↓op_index, ↓op_extract, ↓op_range, ↓op_next, ↓op_call, ↓op_builtin, ↓g_tt, ↓g_ff, ↓g_tf, ↓g_ft, ↓g_tnt, ↓g_tnf, ↓g_fnt, ↓g_fnf, hdd, hpd, hp]
      rw [if_pos (by omega)]
      exact VEnt.tup ⟨VEnt.sl fun j hj => by rw [Nat.zero_add], VEnt.of_eq rfl, trivial⟩
end Go.Fly.Tryd
