/- What was emitted, at any input. -/
import Derived.Test.YtmlknpghkclffaaGreatDoorSYAGF
set_option linter.unusedSimpArgs false
set_option linter.unusedVariables false
set_option maxRecDepth 100000
set_option maxHeartbeats 2000000
namespace Go.Fly.Tryz
open Go

theorem gEm_ok : Holds Proofs.Tryz.prog G0 43 em3C := by
  refine Holds.of_exC D43 Proofs.Tryz.func43 rfl foll (by kernel_rfl) (tab [(83, firstC), (86, whenC), (97, straightC), (98, checkC), (99, steps2C), (105, passedC), (111, mapIvC 145 112), (112, ivC 10000000000000), (114, emittedC), (iceKey 4, iceC)]) (tab_ok ⟨aFirst_ok, aWhen_ok, aStraight_ok, aCheck_ok, gSteps_ok, aPassed_ok, aMapIv_ok, aIv2_ok, aEm_ok, ice_holds, trivial⟩) G0_ok fun k0 rl args hpu hpre => ?_
  unfold em3C at hpre ⊢
  split at hpre
  rotate_left
  · exact hpre.elim
  rename_i n sz get a b c d e f n' sz' hd
  obtain ⟨rfl, hair, rfl, hiv, hn'⟩ := hpre
  have hp := hair.pu
  have hpd := hiv.pu
  by_cases hck : checkE n get a b c d e f = 0
  · obtain ⟨hae, hpath⟩ := checkE_zero.1 hck
    have hok := airE_ok hae
    obtain ⟨hg0, hiv0⟩ := hair.2 0 hok.cnt.1
    have hp0 := hiv0.pu
    have hcn := hok.cnt
    by_cases hce : hrdE n' hd (inN get 0 4) = 0
    · have hz := firstL_zero.1 hce
      have hnn : n' = inN get 0 4 := by
        have := hz (err (!decide ((n' : Int) = (inN get 0 4 : Int))) 2) (by simp)
        rw [err_zero (by decide)] at this
        simp at this
        omega
      subst hnn
      have hb : ∀ i, i < inN get 0 4 → 0 ≤ cell hd i 0 ∧ cell hd i 0 ≤ cell hd i 1 ∧ cell hd i 1 ≤ 10000000000000 := fun i hi => by
        have := ivE_zero.1 (firstI_zero.1 (hz (firstI (fun i => ivE (cell hd i 0) (cell hd i 1) 10000000000000) 0 (inN get 0 4)) (by simp)) i (Nat.zero_le _) (by omega))
        omega
      have hsq := sqE_bd hpath
      have hst := fun i => stG_bd (n := n) (get := get) (flat := c) (sq := sqE a b c d e f) (y0 := 0) (y1 := 0) ⟨hsq.1, by omega⟩ (show min c f ≤ max c f by omega) (Int.le_refl 0) i
      have hpb := fun i hi => d_bd (k := i) hok hpath hi
      obtain ⟨⟨q1, q2, q3⟩, ⟨q4, q5, q6⟩, q7⟩ := id hpath
      have hb8 := hok.bands
      have hvz : decide (firstL [err (!decide ((inN get 0 4 : Int) = (inN get 0 4 : Int))) 2, firstI (fun i => ivE (cell hd i 0) (cell hd i 1) 10000000000000) 0 (inN get 0 4)] = 0) = true := decide_eq_true hce
      have hvz2 : decide (firstL [err false 2, firstI (fun i => ivE (cell hd i 0) (cell hd i 1) 10000000000000) 0 (inN get 0 4)] = 0) = true := by simpa using hvz
      have hone2 : ∀ x y : Int, ∀ v ∈ [V.int .i64 x, V.int .i64 y], Pu v ∧ oneC v = true := fun x y v hv => ones2 v hv
      simp only [Proofs.Tryz.f43]
      rw [enter_mkT (Nat.le_of_ble_eq_true rfl)]
      simp (maxSteps := 4000000) only [go_sem, ↓op_move, ↓op_assign, ↓op_pick, ↓op_alloc, ↓op_box, ↓op_build, ↓op_buildSlice, ↓op_load, ↓op_store, ↓op_nilCheck, ↓op_bin, ↓op_un, ↓op_convert, ↓op_makeFunc, ↓op_makeSlice, ↓op_slice, ↓op_fieldAddr, ↓op_field, ↓op_indexAddr, ↓op_index, ↓op_extract, ↓op_lookup, ↓op_mapUpdate, ↓op_makeMap, ↓op_range, ↓op_next, ↓op_call, ↓op_builtin, ↓g_tt, ↓g_ff, ↓g_tf, ↓g_ft, ↓g_tnt, ↓g_tnf, ↓g_fnt, ↓g_fnf, ↓mkT_getD, hp, hpd, hg0, hp0, hck, hvz, hvz2]
      refine ⟨hair, by omega, ⟨hiv, by omega⟩, isInts_fn _ (by omega), hpath, ⟨hair, hok, ⟨hsq.1, by omega⟩, by omega, by omega, by omega, by omega, by omega⟩, ⟨hair, hok, isIv_fn _ _ hair.1, fun i hi => by have := hst i; omega⟩, ?_⟩
      refine RestT.ents (Ents.nilArr (d := 10) (l := (8, 1000)) 2 (fun _ => []) rfl rfl rfl) ?_
      simp (maxSteps := 4000000) only [go_sem, ↓op_move, ↓op_assign, ↓op_pick, ↓op_alloc, ↓op_box, ↓op_build, ↓op_buildSlice, ↓op_load, ↓op_store, ↓op_nilCheck, ↓op_bin, ↓op_un, ↓op_convert, ↓op_makeFunc, ↓op_makeSlice, ↓op_slice, ↓op_fieldAddr, ↓op_field, ↓op_indexAddr, ↓op_index, ↓op_extract, ↓op_lookup, ↓op_mapUpdate, ↓op_makeMap, ↓op_range, ↓op_next, ↓op_call, ↓op_builtin, ↓g_tt, ↓g_ff, ↓g_tf, ↓g_ft, ↓g_tnt, ↓g_tnf, ↓g_fnt, ↓g_fnf, ↓mkT_getD]
      refine RestT.loopF (β := Nat) [(6, 7), (10, 13), (44, 64)] (fun i => [(10, .msl (8, 1000) 0 i), (44, .int .i64 i)]) (fun i => updH (fun _ => none) (8, 1000) (.arr i 2 (fun i => [.int .i64 (emA n get a b c d e f hd i), .int .i64 (emB n get a b c d e f hd i)])))
        (fun i => i ≤ inN get 0 4 ∧ ∀ j, j < i → decide (emB n get a b c d e f hd j < emA n get a b c d e f hd j) = false) (fun i => inN get 0 4 - i) 0 ⟨Nat.zero_le _, fun j hj => absurd hj (Nat.not_lt_zero _)⟩ ?_ (HpLe.arr1 (updH_same _ _ _) rfl rfl fun j hj => by omega) ?_
      · simp (maxSteps := 4000000) only [go_sem, ↓op_move, ↓op_assign, ↓op_pick, ↓op_alloc, ↓op_box, ↓op_build, ↓op_buildSlice, ↓op_load, ↓op_store, ↓op_nilCheck, ↓op_bin, ↓op_un, ↓op_convert, ↓op_makeFunc, ↓op_makeSlice, ↓op_slice, ↓op_fieldAddr, ↓op_field, ↓op_indexAddr, ↓op_index, ↓op_extract, ↓op_lookup, ↓op_mapUpdate, ↓op_makeMap, ↓op_range, ↓op_next, ↓op_call, ↓op_builtin, ↓g_tt, ↓g_ff, ↓g_tf, ↓g_ft, ↓g_tnt, ↓g_tnf, ↓g_fnt, ↓g_fnf, ↓mkT_getD]
        try exact rfl
      · intro ck i hk hI
        obtain ⟨hi, hno⟩ := hI
        have hk0 : ¬ ck = 0 := by omega
        generalize hq0 : exC _ _ _ _ _ = gg
        by_cases hlt : i < inN get 0 4
        · have hdd : decide ((i : Int) < (inN get 0 4 : Int)) = true := by simp; omega
          have hg := hiv.2 i hlt
          have hbi := hb i hlt
          have hpi := hpb i hlt
          cases hh : decide (emB n get a b c d e f hd i < emA n get a b c d e f hd i)
          · have hh' := hh
            unfold emA emB dLo dHi qLo qHi at hh'
            rw [← hq0]
            clear hq0
            simp (maxSteps := 4000000) only [go_sem, ↓op_move, ↓op_assign, ↓op_pick, ↓op_alloc, ↓op_box, ↓op_build, ↓op_buildSlice, ↓op_load, ↓op_store, ↓op_nilCheck, ↓op_bin, ↓op_un, ↓op_convert, ↓op_makeFunc, ↓op_makeSlice, ↓op_slice, ↓op_fieldAddr, ↓op_field, ↓op_indexAddr, ↓op_index, ↓op_extract, ↓op_lookup, ↓op_mapUpdate, ↓op_makeMap, ↓op_range, ↓op_next, ↓op_call, ↓op_builtin, ↓g_tt, ↓g_ff, ↓g_tf, ↓g_ft, ↓g_tnt, ↓g_tnf, ↓g_fnt, ↓g_fnf, ↓mkT_getD, hdd, hg, hpd, hp, hk0, hh']
            unfold dLo dHi qLo qHi at hpi
            refine ⟨⟨by omega, by omega⟩, ⟨by omega, by omega⟩, ⟨by omega, by omega, by omega, by omega, by omega, by omega, by omega, by omega⟩, ⟨by omega, by omega, row_ok rfl ones2⟩, inK_of (by omega) (by omega), by omega, i + 1, ⟨hlt, fun j hj => ?_⟩, by omega, ⟨rfl, rfl⟩,
              HpLe.arr1 (updH_same _ _ _) rfl rfl fun j hj => snoc (f := fun i => [V.int .i64 (emA n get a b c d e f hd i), V.int .i64 (emB n get a b c d e f hd i)]) rfl rfl hj⟩
            rcases Nat.lt_or_ge j i with q | q
            · simpa using hno j q
            · obtain rfl : j = i := by omega
              simpa using hh
          · have hh' := hh
            unfold emA emB dLo dHi qLo qHi at hh'
            have hE : em3E n get a b c d e f (inN get 0 4) hd = 18 := by
              have := idxF_hit (p := fun i => decide (emB n get a b c d e f hd i < emA n get a b c d e f hd i)) (i := 0) hlt (by rw [Nat.zero_add]; exact hh) (fun j hj => by rw [Nat.zero_add]; exact hno j hj)
              unfold em3E
              rw [if_neg (by simp [hck]), if_neg (by simp [hce]), if_neg (by rw [this]; omega)]
            rw [← hq0]
            clear hq0
            simp (maxSteps := 4000000) only [go_sem, ↓op_move, ↓op_assign, ↓op_pick, ↓op_alloc, ↓op_box, ↓op_build, ↓op_buildSlice, ↓op_load, ↓op_store, ↓op_nilCheck, ↓op_bin, ↓op_un, ↓op_convert, ↓op_makeFunc, ↓op_makeSlice, ↓op_slice, ↓op_fieldAddr, ↓op_field, ↓op_indexAddr, ↓op_index, ↓op_extract, ↓op_lookup, ↓op_mapUpdate, ↓op_makeMap, ↓op_range, ↓op_next, ↓op_call, ↓op_builtin, ↓g_tt, ↓g_ff, ↓g_tf, ↓g_ft, ↓g_tnt, ↓g_tnf, ↓g_fnt, ↓g_fnf, ↓mkT_getD, hdd, hg, hpd, hp, hk0, hh']
            rw [orE_err (by rw [hE]; decide), hE]
            unfold dLo dHi qLo qHi at hpi
            exact ⟨⟨by omega, by omega⟩, ⟨by omega, by omega⟩, ⟨by omega, by omega, by omega, by omega, by omega, by omega, by omega, by omega⟩, VEnt.refl _⟩
        · have hdd : decide ((i : Int) < (inN get 0 4 : Int)) = false := by simp; omega
          obtain rfl : i = inN get 0 4 := by omega
          have hE : em3E n get a b c d e f (inN get 0 4) hd = 0 := by
            have := idxF_none (p := fun i => decide (emB n get a b c d e f hd i < emA n get a b c d e f hd i)) (m := inN get 0 4) (i := 0) (fun j hj => by rw [Nat.zero_add]; exact hno j hj)
            unfold em3E
            rw [if_neg (by simp [hck]), if_neg (by simp [hce]), if_pos this]
          rw [← hq0]
          clear hq0
          simp (maxSteps := 4000000) only [go_sem, ↓op_move, ↓op_assign, ↓op_pick, ↓op_alloc, ↓op_box, ↓op_build, ↓op_buildSlice, ↓op_load, ↓op_store, ↓op_nilCheck, ↓op_bin, ↓op_un, ↓op_convert, ↓op_makeFunc, ↓op_makeSlice, ↓op_slice, ↓op_fieldAddr, ↓op_field, ↓op_indexAddr, ↓op_index, ↓op_extract, ↓op_lookup, ↓op_mapUpdate, ↓op_makeMap, ↓op_range, ↓op_next, ↓op_call, ↓op_builtin, ↓g_tt, ↓g_ff, ↓g_tf, ↓g_ft, ↓g_tnt, ↓g_tnf, ↓g_fnt, ↓g_fnf, ↓mkT_getD, hdd, hpd, hp]
          rw [orE_no hE, if_pos (by omega)]
          exact VEnt.tup ⟨VEnt.sl fun j hj => by rw [Nat.zero_add], VEnt.of_eq rfl, trivial⟩
    · have hdz : decide (firstL [err (!decide ((n' : Int) = (inN get 0 4 : Int))) 2, firstI (fun i => ivE (cell hd i 0) (cell hd i 1) 10000000000000) 0 n'] = 0) = false := decide_eq_false hce
      have hE : em3E n get a b c d e f n' hd = hrdE n' hd (inN get 0 4) := by unfold em3E; rw [if_neg (by simp [hck]), if_pos hce]
      simp only [Proofs.Tryz.f43]
      rw [enter_mkT (Nat.le_of_ble_eq_true rfl)]
      simp (maxSteps := 4000000) only [go_sem, ↓op_move, ↓op_assign, ↓op_pick, ↓op_alloc, ↓op_box, ↓op_build, ↓op_buildSlice, ↓op_load, ↓op_store, ↓op_nilCheck, ↓op_bin, ↓op_un, ↓op_convert, ↓op_makeFunc, ↓op_makeSlice, ↓op_slice, ↓op_fieldAddr, ↓op_field, ↓op_indexAddr, ↓op_index, ↓op_extract, ↓op_lookup, ↓op_mapUpdate, ↓op_makeMap, ↓op_range, ↓op_next, ↓op_call, ↓op_builtin, ↓g_tt, ↓g_ff, ↓g_tf, ↓g_ft, ↓g_tnt, ↓g_tnf, ↓g_fnt, ↓g_fnf, ↓mkT_getD, hp, hpd, hg0, hp0, hck, hdz]
      rw [hE, orE_err hce]
      exact ⟨hair, by omega, ⟨hiv, hn'⟩, isInts_fn _ (by omega), VEnt.refl _⟩
  · have hdc : decide (checkE n get a b c d e f = 0) = false := decide_eq_false hck
    have hE : em3E n get a b c d e f n' hd = checkE n get a b c d e f := by unfold em3E; rw [if_pos hck]
    simp only [Proofs.Tryz.f43]
    rw [enter_mkT (Nat.le_of_ble_eq_true rfl)]
    simp (maxSteps := 4000000) only [go_sem, ↓op_move, ↓op_assign, ↓op_pick, ↓op_alloc, ↓op_box, ↓op_build, ↓op_buildSlice, ↓op_load, ↓op_store, ↓op_nilCheck, ↓op_bin, ↓op_un, ↓op_convert, ↓op_makeFunc, ↓op_makeSlice, ↓op_slice, ↓op_fieldAddr, ↓op_field, ↓op_indexAddr, ↓op_index, ↓op_extract, ↓op_lookup, ↓op_mapUpdate, ↓op_makeMap, ↓op_range, ↓op_next, ↓op_call, ↓op_builtin, ↓g_tt, ↓g_ff, ↓g_tf, ↓g_ft, ↓g_tnt, ↓g_tnf, ↓g_fnt, ↓g_fnf, ↓mkT_getD, hp, hpd, hdc]
    rw [hE, orE_err hck]
    exact ⟨hair, VEnt.refl _⟩
end Go.Fly.Tryz
