/- The air: what arrives. -/
import Derived.Test.YtfpoimbidpojnaaDoorSYEBN
import Derived.Test.YtfpoimbidpojnaaDoorSYEBM
import Derived.Test.YtfpoimbidpojnaaDoorAJ
import Derived.Test.YtfpoimbidpojnaaDoorAK
set_option linter.unusedSimpArgs false
set_option linter.unusedVariables false
set_option maxRecDepth 100000
set_option maxHeartbeats 1000000
namespace Go.Fly.Tryd
open Go

theorem aArrived_ok : Holds Proofs.Tryd.prog G0 14 arrived2C := by
  refine Holds.of_exC D14 Proofs.Tryd.func14 rfl foll (by kernel_rfl) (tab [(28, checkC), (32, straightC), (37, energiesC), (38, arrivedC), (39, passedC), (40, stepsC), (iceKey 4, iceC)]) (tab_ok ⟨aCheck_ok, aStraight_ok, aEnergies_ok, aArr_ok, aPassed_ok, aSteps_ok, ice_holds, trivial⟩) G0_ok fun k0 rl args hpu hpre => ?_
  unfold arrived2C at hpre ⊢
  split at hpre
  rotate_left
  · exact hpre.elim
  rename_i n sz get a b c d e f n' sz' en
  obtain ⟨rfl, hair, hae, hpath, rfl, hen, rfl, hb⟩ := hpre
  have hok := airE_ok hae
  have hp := hair.pu
  have hpe := hen.pu
  obtain ⟨hg0, hiv0⟩ := hair.2 0 hok.cnt.1
  have hp0 := hiv0.pu
  have hck : checkE n get a b c d e f = 0 := by
    unfold checkE; rw [firstL_zero]; simp [hae, pathE_zero.2 hpath]
  have hce : energiesE (inN get 0 4) en (inN get 0 4 : Int) 10000000000000 = 0 := by
    unfold energiesE; rw [firstL_zero]; simp [err, rngs_zero]; exact hb
  have hsq := sqE_bd hpath
  have hst := fun i => step_bd (n := n) (get := get) (flat := c) hsq (show min c f ≤ max c f by omega) i
  have hpb := fun i hi => p_bd (k := i) hok hpath hi
  obtain ⟨⟨q1, q2, q3⟩, ⟨q4, q5, q6⟩, q7⟩ := id hpath
  have hb8 := hok.bands
  have hcn := hok.cnt
  simp only [Proofs.Tryd.f14]
  simp (maxSteps := 4000000) only [go_sem, ↓op_move, ↓op_assign, ↓op_pick, ↓op_alloc, ↓op_box, ↓op_build, ↓op_buildSlice, ↓op_load, ↓op_store, ↓op_nilCheck, ↓op_bin, ↓op_un, ↓op_convert, ↓op_makeFunc, ↓op_makeSlice, ↓op_slice, ↓op_fieldAddr, ↓op_field, ↓op_indexAddr, ↓op_index, ↓op_extract, ↓op_lookup, ↓op_mapUpdate, ↓op_makeMap, ↓op_range, ↓op_next, ↓op_call, ↓op_builtin, ↓g_tt, ↓g_ff, ↓g_tf, ↓g_ft, ↓g_tnt, ↓g_tnf, ↓g_fnt, ↓g_fnf, hp, hpe, hg0, hp0, hck, hce]
  refine ⟨hair, by omega, ⟨hen, by omega⟩, hpath, ⟨hair, hok, hsq, by omega, by omega, by omega, by omega, by omega⟩, ⟨hair, hok, isIv_fn _ _ hair.1, fun i hi => ?_⟩, ⟨isIv_fn _ _ (by omega), hen, by omega, fun i hi => ?_⟩, VEnt.of_eq rfl⟩
  · have := hst i
    omega
  · have h1 := hpb i hi
    have h2 := hb i hi
    unfold pLo pHi at h1
    omega

end Go.Fly.Tryd
