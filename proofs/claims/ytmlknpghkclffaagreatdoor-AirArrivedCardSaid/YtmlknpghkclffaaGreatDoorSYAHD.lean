/- The reference's energies, and the law on them. -/
import Derived.Test.YtmlknpghkclffaaGreatDoorSYAHC
import Derived.Test.YtmlknpghkclffaaGreatDoorAZ
set_option linter.unusedSimpArgs false
set_option linter.unusedVariables false
set_option maxRecDepth 100000
set_option maxHeartbeats 8000000
namespace Go.Fly.Tryz
open Go

theorem rChkEn_ok : Holds Proofs.Tryz.prog G0 45 energiesC := by
  refine Holds.of_exC D45 Proofs.Tryz.func45 rfl foll (by kernel_rfl) (tab [(23, withinC)]) (tab_ok ⟨qRange_ok, trivial⟩) G0_ok fun k0 rl args hpu hpre => ?_
  unfold energiesC at hpre ⊢
  split at hpre
  rotate_left
  · exact hpre.elim
  rename_i n sz get bands most
  obtain ⟨rfl, hin, hn⟩ := hpre
  have hp := hin.pu
  by_cases hb : (n : Int) = bands
  · have hd : decide ((n : Int) = bands) = true := decide_eq_true hb
    have he : energiesE n get bands most = firstI (fun i => rng (intAt get i) 0 most) 0 n := by
      unfold energiesE rngs
      rw [hd]
      simp [firstL, err]
      exact fun h => h.symm
    simp only [Proofs.Tryz.f45]
    rw [enter_mkT (Nat.le_of_ble_eq_true rfl)]
    simp (maxSteps := 4000000) only [go_sem, ↓op_move, ↓op_assign, ↓op_pick, ↓op_alloc, ↓op_box, ↓op_build, ↓op_buildSlice, ↓op_load, ↓op_store, ↓op_nilCheck, ↓op_bin, ↓op_un, ↓op_convert, ↓op_makeFunc, ↓op_makeSlice, ↓op_slice, ↓op_fieldAddr, ↓op_field, ↓op_indexAddr, ↓op_index, ↓op_extract, ↓op_lookup, ↓op_mapUpdate, ↓op_makeMap, ↓op_range, ↓op_next, ↓op_call, ↓op_builtin, ↓g_tt, ↓g_ff, ↓g_tf, ↓g_ft, ↓g_tnt, ↓g_tnf, ↓g_fnt, ↓g_fnf, ↓mkT_getD, hp, hd]
    refine RestT.loopF (β := Nat) [(6, 8), (13, 27)] (fun i => [(7, .int .i64 i)]) (fun _ => fun _ => none) (fun i => i ≤ n ∧ energiesE n get bands most = firstI (fun i => rng (intAt get i) 0 most) i (n - i)) (fun i => n - i) 0 ⟨Nat.zero_le _, he⟩ ?_ HpLe.none ?_
    · simp (maxSteps := 4000000) only [go_sem, ↓op_move, ↓op_assign, ↓op_pick, ↓op_alloc, ↓op_box, ↓op_build, ↓op_buildSlice, ↓op_load, ↓op_store, ↓op_nilCheck, ↓op_bin, ↓op_un, ↓op_convert, ↓op_makeFunc, ↓op_makeSlice, ↓op_slice, ↓op_fieldAddr, ↓op_field, ↓op_indexAddr, ↓op_index, ↓op_extract, ↓op_lookup, ↓op_mapUpdate, ↓op_makeMap, ↓op_range, ↓op_next, ↓op_call, ↓op_builtin, ↓g_tt, ↓g_ff, ↓g_tf, ↓g_ft, ↓g_tnt, ↓g_tnf, ↓g_fnt, ↓g_fnf, ↓mkT_getD]
      try exact rfl
    · intro ck i hck hI
      obtain ⟨hi, hf⟩ := hI
      generalize hq0 : exC _ _ _ _ _ = gg
      by_cases hlt : i < n
      · have hd2 : decide ((i : Int) < (n : Int)) = true := by simp; omega
        have hg := hin.2 i hlt
        rw [firstI_step hlt] at hf
        by_cases hr : rng (intAt get i) 0 most = 0
        · have hd3 : decide (rng (intAt get i) 0 most = 0) = true := decide_eq_true hr
          rw [if_neg (by simp [hr])] at hf
          rw [← hq0]
          clear hq0
          simp (maxSteps := 4000000) only [go_sem, ↓op_move, ↓op_assign, ↓op_pick, ↓op_alloc, ↓op_box, ↓op_build, ↓op_buildSlice, ↓op_load, ↓op_store, ↓op_nilCheck, ↓op_bin, ↓op_un, ↓op_convert, ↓op_makeFunc, ↓op_makeSlice, ↓op_slice, ↓op_fieldAddr, ↓op_field, ↓op_indexAddr, ↓op_index, ↓op_extract, ↓op_lookup, ↓op_mapUpdate, ↓op_makeMap, ↓op_range, ↓op_next, ↓op_call, ↓op_builtin, ↓g_tt, ↓g_ff, ↓g_tf, ↓g_ft, ↓g_tnt, ↓g_tnf, ↓g_fnt, ↓g_fnf, ↓mkT_getD, hd2, hg, hp, hd3]
          exact ⟨⟨by omega, by omega⟩, inK_of (by omega) (by omega), i + 1, ⟨hlt, hf⟩, by omega, by rw [Int.natCast_add]; rfl, HpLe.none⟩
        · have hd3 : decide (rng (intAt get i) 0 most = 0) = false := decide_eq_false hr
          rw [if_pos hr] at hf
          rw [← hq0]
          clear hq0
          simp (maxSteps := 4000000) only [go_sem, ↓op_move, ↓op_assign, ↓op_pick, ↓op_alloc, ↓op_box, ↓op_build, ↓op_buildSlice, ↓op_load, ↓op_store, ↓op_nilCheck, ↓op_bin, ↓op_un, ↓op_convert, ↓op_makeFunc, ↓op_makeSlice, ↓op_slice, ↓op_fieldAddr, ↓op_field, ↓op_indexAddr, ↓op_index, ↓op_extract, ↓op_lookup, ↓op_mapUpdate, ↓op_makeMap, ↓op_range, ↓op_next, ↓op_call, ↓op_builtin, ↓g_tt, ↓g_ff, ↓g_tf, ↓g_ft, ↓g_tnt, ↓g_tnf, ↓g_fnt, ↓g_fnf, ↓mkT_getD, hd2, hg, hp, hd3]
          exact ⟨⟨by omega, by omega⟩, VEnt.of_eq (by rw [hf])⟩
      · have hd2 : decide ((i : Int) < (n : Int)) = false := by simp; omega
        rw [firstI_end hlt] at hf
        rw [← hq0]
        clear hq0
        simp (maxSteps := 4000000) only [go_sem, ↓op_move, ↓op_assign, ↓op_pick, ↓op_alloc, ↓op_box, ↓op_build, ↓op_buildSlice, ↓op_load, ↓op_store, ↓op_nilCheck, ↓op_bin, ↓op_un, ↓op_convert, ↓op_makeFunc, ↓op_makeSlice, ↓op_slice, ↓op_fieldAddr, ↓op_field, ↓op_indexAddr, ↓op_index, ↓op_extract, ↓op_lookup, ↓op_mapUpdate, ↓op_makeMap, ↓op_range, ↓op_next, ↓op_call, ↓op_builtin, ↓g_tt, ↓g_ff, ↓g_tf, ↓g_ft, ↓g_tnt, ↓g_tnf, ↓g_fnt, ↓g_fnf, ↓mkT_getD, hd2, hp]
        rw [hf]
        exact VEnt.refl _
  · have hd : decide ((n : Int) = bands) = false := decide_eq_false hb
    have he : energiesE n get bands most = 2 := by
      unfold energiesE
      rw [hd]
      simp [firstL, err]
    simp only [Proofs.Tryz.f45]
    rw [enter_mkT (Nat.le_of_ble_eq_true rfl)]
    simp (maxSteps := 4000000) only [go_sem, ↓op_move, ↓op_assign, ↓op_pick, ↓op_alloc, ↓op_box, ↓op_build, ↓op_buildSlice, ↓op_load, ↓op_store, ↓op_nilCheck, ↓op_bin, ↓op_un, ↓op_convert, ↓op_makeFunc, ↓op_makeSlice, ↓op_slice, ↓op_fieldAddr, ↓op_field, ↓op_indexAddr, ↓op_index, ↓op_extract, ↓op_lookup, ↓op_mapUpdate, ↓op_makeMap, ↓op_range, ↓op_next, ↓op_call, ↓op_builtin, ↓g_tt, ↓g_ff, ↓g_tf, ↓g_ft, ↓g_tnt, ↓g_tnf, ↓g_fnt, ↓g_fnf, ↓mkT_getD, hp, hd]
    rw [he]
    exact VEnt.refl _

theorem rChkHd_ok : Holds Proofs.Tryz.prog G0 46 hrdRC := by
  refine Holds.of_exC D46 Proofs.Tryz.func46 rfl foll (by kernel_rfl) (tab [(115, intervalC)]) (tab_ok ⟨rIv_ok, trivial⟩) G0_ok fun k0 rl args hpu hpre => ?_
  unfold hrdRC at hpre ⊢
  split at hpre
  rotate_left
  · exact hpre.elim
  rename_i n sz hd bands
  obtain ⟨rfl, hiv, hn⟩ := hpre
  have hp := hiv.pu
  by_cases hb : (n : Int) = bands
  · have hdd : decide ((n : Int) = bands) = true := decide_eq_true hb
    have he : hrdI n hd bands = firstI (fun i => ivE (cell hd i 0) (cell hd i 1) 10000000000000) 0 n := by
      unfold hrdI
      rw [hdd]
      simp [firstL, err]
      exact fun h => h.symm
    simp only [Proofs.Tryz.f46]
    rw [enter_mkT (Nat.le_of_ble_eq_true rfl)]
    simp (maxSteps := 4000000) only [go_sem, ↓op_move, ↓op_assign, ↓op_pick, ↓op_alloc, ↓op_box, ↓op_build, ↓op_buildSlice, ↓op_load, ↓op_store, ↓op_nilCheck, ↓op_bin, ↓op_un, ↓op_convert, ↓op_makeFunc, ↓op_makeSlice, ↓op_slice, ↓op_fieldAddr, ↓op_field, ↓op_indexAddr, ↓op_index, ↓op_extract, ↓op_lookup, ↓op_mapUpdate, ↓op_makeMap, ↓op_range, ↓op_next, ↓op_call, ↓op_builtin, ↓g_tt, ↓g_ff, ↓g_tf, ↓g_ft, ↓g_tnt, ↓g_tnf, ↓g_fnt, ↓g_fnf, ↓mkT_getD, hp, hdd]
    refine RestT.loopF (β := Nat) [(4, 6), (11, 24)] (fun i => [(5, .int .i64 i)]) (fun _ => fun _ => none) (fun i => i ≤ n ∧ hrdI n hd bands = firstI (fun i => ivE (cell hd i 0) (cell hd i 1) 10000000000000) i (n - i)) (fun i => n - i) 0 ⟨Nat.zero_le _, he⟩ ?_ HpLe.none ?_
    · simp (maxSteps := 4000000) only [go_sem, ↓op_move, ↓op_assign, ↓op_pick, ↓op_alloc, ↓op_box, ↓op_build, ↓op_buildSlice, ↓op_load, ↓op_store, ↓op_nilCheck, ↓op_bin, ↓op_un, ↓op_convert, ↓op_makeFunc, ↓op_makeSlice, ↓op_slice, ↓op_fieldAddr, ↓op_field, ↓op_indexAddr, ↓op_index, ↓op_extract, ↓op_lookup, ↓op_mapUpdate, ↓op_makeMap, ↓op_range, ↓op_next, ↓op_call, ↓op_builtin, ↓g_tt, ↓g_ff, ↓g_tf, ↓g_ft, ↓g_tnt, ↓g_tnf, ↓g_fnt, ↓g_fnf, ↓mkT_getD]
      try exact rfl
    · intro ck i hck hI
      obtain ⟨hi, hf⟩ := hI
      generalize hq0 : exC _ _ _ _ _ = gg
      by_cases hlt : i < n
      · have hd2 : decide ((i : Int) < (n : Int)) = true := by simp; omega
        have hg := hiv.2 i hlt
        rw [firstI_step hlt] at hf
        by_cases hr : ivE (cell hd i 0) (cell hd i 1) 10000000000000 = 0
        · have hd3 : decide (ivE (cell hd i 0) (cell hd i 1) 10000000000000 = 0) = true := decide_eq_true hr
          rw [if_neg (by simp [hr])] at hf
          rw [← hq0]
          clear hq0
          simp (maxSteps := 4000000) only [go_sem, ↓op_move, ↓op_assign, ↓op_pick, ↓op_alloc, ↓op_box, ↓op_build, ↓op_buildSlice, ↓op_load, ↓op_store, ↓op_nilCheck, ↓op_bin, ↓op_un, ↓op_convert, ↓op_makeFunc, ↓op_makeSlice, ↓op_slice, ↓op_fieldAddr, ↓op_field, ↓op_indexAddr, ↓op_index, ↓op_extract, ↓op_lookup, ↓op_mapUpdate, ↓op_makeMap, ↓op_range, ↓op_next, ↓op_call, ↓op_builtin, ↓g_tt, ↓g_ff, ↓g_tf, ↓g_ft, ↓g_tnt, ↓g_tnf, ↓g_fnt, ↓g_fnf, ↓mkT_getD, hd2, hg, hp, hd3]
          exact ⟨⟨by omega, by omega⟩, inK_of (by omega) (by omega), i + 1, ⟨hlt, hf⟩, by omega, by rw [Int.natCast_add]; rfl, HpLe.none⟩
        · have hd3 : decide (ivE (cell hd i 0) (cell hd i 1) 10000000000000 = 0) = false := decide_eq_false hr
          rw [if_pos hr] at hf
          rw [← hq0]
          clear hq0
          simp (maxSteps := 4000000) only [go_sem, ↓op_move, ↓op_assign, ↓op_pick, ↓op_alloc, ↓op_box, ↓op_build, ↓op_buildSlice, ↓op_load, ↓op_store, ↓op_nilCheck, ↓op_bin, ↓op_un, ↓op_convert, ↓op_makeFunc, ↓op_makeSlice, ↓op_slice, ↓op_fieldAddr, ↓op_field, ↓op_indexAddr, ↓op_index, ↓op_extract, ↓op_lookup, ↓op_mapUpdate, ↓op_makeMap, ↓op_range, ↓op_next, ↓op_call, ↓op_builtin, ↓g_tt, ↓g_ff, ↓g_tf, ↓g_ft, ↓g_tnt, ↓g_tnf, ↓g_fnt, ↓g_fnf, ↓mkT_getD, hd2, hg, hp, hd3]
          exact ⟨⟨by omega, by omega⟩, VEnt.of_eq (by rw [hf])⟩
      · have hd2 : decide ((i : Int) < (n : Int)) = false := by simp; omega
        rw [firstI_end hlt] at hf
        rw [← hq0]
        clear hq0
        simp (maxSteps := 4000000) only [go_sem, ↓op_move, ↓op_assign, ↓op_pick, ↓op_alloc, ↓op_box, ↓op_build, ↓op_buildSlice, ↓op_load, ↓op_store, ↓op_nilCheck, ↓op_bin, ↓op_un, ↓op_convert, ↓op_makeFunc, ↓op_makeSlice, ↓op_slice, ↓op_fieldAddr, ↓op_field, ↓op_indexAddr, ↓op_index, ↓op_extract, ↓op_lookup, ↓op_mapUpdate, ↓op_makeMap, ↓op_range, ↓op_next, ↓op_call, ↓op_builtin, ↓g_tt, ↓g_ff, ↓g_tf, ↓g_ft, ↓g_tnt, ↓g_tnf, ↓g_fnt, ↓g_fnf, ↓mkT_getD, hd2, hp]
        rw [hf]
        exact VEnt.refl _
  · have hdd : decide ((n : Int) = bands) = false := decide_eq_false hb
    have he : hrdI n hd bands = 2 := by
      unfold hrdI
      rw [hdd]
      simp [firstL, err]
    simp only [Proofs.Tryz.f46]
    rw [enter_mkT (Nat.le_of_ble_eq_true rfl)]
    simp (maxSteps := 4000000) only [go_sem, ↓op_move, ↓op_assign, ↓op_pick, ↓op_alloc, ↓op_box, ↓op_build, ↓op_buildSlice, ↓op_load, ↓op_store, ↓op_nilCheck, ↓op_bin, ↓op_un, ↓op_convert, ↓op_makeFunc, ↓op_makeSlice, ↓op_slice, ↓op_fieldAddr, ↓op_field, ↓op_indexAddr, ↓op_index, ↓op_extract, ↓op_lookup, ↓op_mapUpdate, ↓op_makeMap, ↓op_range, ↓op_next, ↓op_call, ↓op_builtin, ↓g_tt, ↓g_ff, ↓g_tf, ↓g_ft, ↓g_tnt, ↓g_tnf, ↓g_fnt, ↓g_fnf, ↓mkT_getD, hp, hdd]
    rw [he]
    exact VEnt.refl _

theorem rArr_ok : Holds Proofs.Tryz.prog G0 47 arRC := by
  refine Holds.of_exC D47 Proofs.Tryz.func47 rfl foll (by kernel_rfl) (tab [(116, flrC), (117, celC)]) (tab_ok ⟨qFlr_ok, qCel_ok, trivial⟩) G0_ok fun k0 rl args hpu hpre => ?_
  unfold arRC at hpre ⊢
  split at hpre
  rotate_left
  · exact hpre.elim
  rename_i n sz p n' sz' en
  obtain ⟨rfl, ⟨hn, hp⟩, rfl, rfl, ⟨hn', he⟩, hn6, hb⟩ := hpre
  have hpp := (show IsIv n' p from ⟨hn, hp⟩).pu
  have hpe := (show IsInts n' en from ⟨hn', he⟩).pu
  simp only [Proofs.Tryz.f47]
  rw [enter_mkT (Nat.le_of_ble_eq_true rfl)]
  simp (maxSteps := 4000000) only [go_sem, ↓op_move, ↓op_assign, ↓op_pick, ↓op_alloc, ↓op_box, ↓op_build, ↓op_buildSlice, ↓op_load, ↓op_store, ↓op_nilCheck, ↓op_bin, ↓op_un, ↓op_convert, ↓op_makeFunc, ↓op_makeSlice, ↓op_slice, ↓op_fieldAddr, ↓op_field, ↓op_indexAddr, ↓op_index, ↓op_extract, ↓op_lookup, ↓op_mapUpdate, ↓op_makeMap, ↓op_range, ↓op_next, ↓op_call, ↓op_builtin, ↓g_tt, ↓g_ff, ↓g_tf, ↓g_ft, ↓g_tnt, ↓g_tnf, ↓g_fnt, ↓g_fnf, ↓mkT_getD, hpp, hpe]
  refine RestT.ents (Ents.nilArr (d := 5) (l := (4, 1000)) 2 (fun _ => []) rfl rfl rfl) ?_
  simp only [go_sem, ↓op_move, ↓op_assign, ↓op_pick, ↓op_alloc, ↓op_box, ↓op_build, ↓op_buildSlice, ↓op_load, ↓op_store, ↓op_nilCheck, ↓op_bin, ↓op_un, ↓op_convert, ↓op_makeFunc, ↓op_makeSlice, ↓op_slice, ↓op_fieldAddr, ↓op_field, ↓op_indexAddr, ↓op_index, ↓op_extract, ↓op_lookup, ↓op_mapUpdate, ↓op_makeMap, ↓op_range, ↓op_next, ↓op_call, ↓op_builtin, ↓g_tt, ↓g_ff, ↓g_tf, ↓g_ft, ↓g_tnt, ↓g_tnf, ↓g_fnt, ↓g_fnf, ↓mkT_getD]
  refine RestT.loopF (β := Nat) [(5, 38)] (fun i => [(5, .msl (4, 1000) 0 i), (6, .int .i64 i)]) (fun i => updH (fun _ => none) (4, 1000) (.arr i 2 (fun i => [.int .i64 (arrLo (intAt en i) (cell p i 0)), .int .i64 (arrHi (intAt en i) (cell p i 1))])))
    (fun i => i ≤ n') (fun i => n' - i) 0 (Nat.zero_le _) ?_ (HpLe.arr1 (updH_same _ _ _) rfl rfl fun j hj => by omega) ?_
  · simp (maxSteps := 4000000) only [go_sem, ↓op_move, ↓op_assign, ↓op_pick, ↓op_alloc, ↓op_box, ↓op_build, ↓op_buildSlice, ↓op_load, ↓op_store, ↓op_nilCheck, ↓op_bin, ↓op_un, ↓op_convert, ↓op_makeFunc, ↓op_makeSlice, ↓op_slice, ↓op_fieldAddr, ↓op_field, ↓op_indexAddr, ↓op_index, ↓op_extract, ↓op_lookup, ↓op_mapUpdate, ↓op_makeMap, ↓op_range, ↓op_next, ↓op_call, ↓op_builtin, ↓g_tt, ↓g_ff, ↓g_tf, ↓g_ft, ↓g_tnt, ↓g_tnf, ↓g_fnt, ↓g_fnf, ↓mkT_getD]
    try exact rfl
  · intro ck i hck hi
    generalize hq0 : exC _ _ _ _ _ = gg
    by_cases hlt : i < n'
    · have hd : decide ((i : Int) < (n' : Int)) = true := by simp; omega
      have hgp := hp i hlt
      have hge := he i hlt
      have hbi := hb i hlt
      have m1 := mul_le_of hbi.2.2.2.2.1 hbi.2.2.2.2.2 hbi.1 hbi.2.1
      have m2 := mul_le_of hbi.2.2.2.2.1 hbi.2.2.2.2.2 hbi.2.2.1 hbi.2.2.2.1
      have hrow : [V.int .i64 (arrLo (intAt en i) (cell p i 0)), V.int .i64 (arrHi (intAt en i) (cell p i 1))] = [V.int .i64 (intAt en i * cell p i 0 / 1000), V.int .i64 ((intAt en i * cell p i 1 + 1000 - 1) / 1000)] := by
        unfold arrLo arrHi; rw [show intAt en i * cell p i 1 + 1000 - 1 = intAt en i * cell p i 1 + 999 by omega]
      rw [← hq0]
      clear hq0
      simp (maxSteps := 4000000) only [go_sem, ↓op_move, ↓op_assign, ↓op_pick, ↓op_alloc, ↓op_box, ↓op_build, ↓op_buildSlice, ↓op_load, ↓op_store, ↓op_nilCheck, ↓op_bin, ↓op_un, ↓op_convert, ↓op_makeFunc, ↓op_makeSlice, ↓op_slice, ↓op_fieldAddr, ↓op_field, ↓op_indexAddr, ↓op_index, ↓op_extract, ↓op_lookup, ↓op_mapUpdate, ↓op_makeMap, ↓op_range, ↓op_next, ↓op_call, ↓op_builtin, ↓g_tt, ↓g_ff, ↓g_tf, ↓g_ft, ↓g_tnt, ↓g_tnf, ↓g_fnt, ↓g_fnf, ↓mkT_getD, hd, hgp, hge, hpp, hpe]
      exact ⟨⟨by omega, by omega⟩, ⟨by omega, by omega⟩, inK_of (by omega) (by omega), ⟨by omega, by omega⟩, ⟨by omega, by omega⟩, ⟨by omega, by omega⟩, inK_of (by omega) (by omega), ⟨by omega, by omega⟩, ⟨by omega, by omega, row_ok rfl ones2⟩, inK_of (by omega) (by omega), by omega, i + 1, hlt, by omega, ⟨rfl, by rw [Int.natCast_add]; rfl⟩, HpLe.arr1 (updH_same _ _ _) rfl rfl fun j hj => snoc (f := fun i => [V.int .i64 (arrLo (intAt en i) (cell p i 0)), V.int .i64 (arrHi (intAt en i) (cell p i 1))]) rfl hrow hj⟩
    · have hd : decide ((i : Int) < (n' : Int)) = false := by simp; omega
      obtain rfl : i = n' := by omega
      rw [← hq0]
      clear hq0
      simp (maxSteps := 4000000) only [go_sem, ↓op_move, ↓op_assign, ↓op_pick, ↓op_alloc, ↓op_box, ↓op_build, ↓op_buildSlice, ↓op_load, ↓op_store, ↓op_nilCheck, ↓op_bin, ↓op_un, ↓op_convert, ↓op_makeFunc, ↓op_makeSlice, ↓op_slice, ↓op_fieldAddr, ↓op_field, ↓op_indexAddr, ↓op_index, ↓op_extract, ↓op_lookup, ↓op_mapUpdate, ↓op_makeMap, ↓op_range, ↓op_next, ↓op_call, ↓op_builtin, ↓g_tt, ↓g_ff, ↓g_tf, ↓g_ft, ↓g_tnt, ↓g_tnf, ↓g_fnt, ↓g_fnf, ↓mkT_getD, hd, hpp, hpe, Nat.zero_add]
      exact VEnt.refl _

theorem rEm_ok : Holds Proofs.Tryz.prog G0 48 emRC := by
  refine Holds.of_exC D48 Proofs.Tryz.func48 rfl foll (by kernel_rfl) (tab [(116, flrC), (117, celC)]) (tab_ok ⟨qFlr_ok, qCel_ok, trivial⟩) G0_ok fun k0 rl args hpu hpre => ?_
  unfold emRC at hpre ⊢
  split at hpre
  rotate_left
  · exact hpre.elim
  rename_i n sz p n' sz' hd
  obtain ⟨rfl, ⟨hn, hp⟩, rfl, rfl, ⟨hn', he⟩, hn6, hb⟩ := hpre
  have hpp := (show IsIv n' p from ⟨hn, hp⟩).pu
  have hpe := (show IsIv n' hd from ⟨hn', he⟩).pu
  simp only [Proofs.Tryz.f48]
  rw [enter_mkT (Nat.le_of_ble_eq_true rfl)]
  simp (maxSteps := 4000000) only [go_sem, ↓op_move, ↓op_assign, ↓op_pick, ↓op_alloc, ↓op_box, ↓op_build, ↓op_buildSlice, ↓op_load, ↓op_store, ↓op_nilCheck, ↓op_bin, ↓op_un, ↓op_convert, ↓op_makeFunc, ↓op_makeSlice, ↓op_slice, ↓op_fieldAddr, ↓op_field, ↓op_indexAddr, ↓op_index, ↓op_extract, ↓op_lookup, ↓op_mapUpdate, ↓op_makeMap, ↓op_range, ↓op_next, ↓op_call, ↓op_builtin, ↓g_tt, ↓g_ff, ↓g_tf, ↓g_ft, ↓g_tnt, ↓g_tnf, ↓g_fnt, ↓g_fnf, ↓mkT_getD, hpp, hpe]
  refine RestT.ents (Ents.nilArr (d := 6) (l := (4, 1000)) 2 (fun _ => []) rfl rfl rfl) ?_
  simp only [go_sem, ↓op_move, ↓op_assign, ↓op_pick, ↓op_alloc, ↓op_box, ↓op_build, ↓op_buildSlice, ↓op_load, ↓op_store, ↓op_nilCheck, ↓op_bin, ↓op_un, ↓op_convert, ↓op_makeFunc, ↓op_makeSlice, ↓op_slice, ↓op_fieldAddr, ↓op_field, ↓op_indexAddr, ↓op_index, ↓op_extract, ↓op_lookup, ↓op_mapUpdate, ↓op_makeMap, ↓op_range, ↓op_next, ↓op_call, ↓op_builtin, ↓g_tt, ↓g_ff, ↓g_tf, ↓g_ft, ↓g_tnt, ↓g_tnf, ↓g_fnt, ↓g_fnf, ↓mkT_getD]
  refine RestT.loopF (β := Nat) [(4, 79)] (fun i => [(6, .msl (4, 1000) 0 i), (7, .int .i64 i)]) (fun i => updH (fun _ => none) (4, 1000) (.arr i 2 (fun i => [.int .i64 (emX p hd i), .int .i64 (emY p hd i)])))
    (fun i => i ≤ n' ∧ ∀ j, j < i → decide (emY p hd j < emX p hd j) = false) (fun i => n' - i) 0 ⟨Nat.zero_le _, fun j hj => absurd hj (Nat.not_lt_zero _)⟩ ?_ (HpLe.arr1 (updH_same _ _ _) rfl rfl fun j hj => by omega) ?_
  · simp (maxSteps := 4000000) only [go_sem, ↓op_move, ↓op_assign, ↓op_pick, ↓op_alloc, ↓op_box, ↓op_build, ↓op_buildSlice, ↓op_load, ↓op_store, ↓op_nilCheck, ↓op_bin, ↓op_un, ↓op_convert, ↓op_makeFunc, ↓op_makeSlice, ↓op_slice, ↓op_fieldAddr, ↓op_field, ↓op_indexAddr, ↓op_index, ↓op_extract, ↓op_lookup, ↓op_mapUpdate, ↓op_makeMap, ↓op_range, ↓op_next, ↓op_call, ↓op_builtin, ↓g_tt, ↓g_ff, ↓g_tf, ↓g_ft, ↓g_tnt, ↓g_tnf, ↓g_fnt, ↓g_fnf, ↓mkT_getD]
    try exact rfl
  · intro ck i hck hI
    obtain ⟨hi, hno⟩ := hI
    have hk0 : ¬ ck = 0 := by omega
    have hk1 : ¬ ck = 1 := by omega
    have hk2 : ¬ ck = 2 := by omega
    have hk3 : ¬ ck = 3 := by omega
    generalize hq0 : exC _ _ _ _ _ = gg
    by_cases hlt : i < n'
    · have hd1 : decide ((i : Int) < (n' : Int)) = true := by simp; omega
      have hgp := hp i hlt
      have hge := he i hlt
      obtain ⟨b1, b2, b3, b4, b5, b6, b7⟩ := hb i hlt
      have x1 := emLo_bd (lo := cell hd i 0) (ph := cell p i 1) ⟨by omega, by omega⟩ b3
      have y1 := emHi_bd (hi := cell hd i 1) (pl := cell p i 0) (by omega) b1
      have hnx : ∀ j, j < i + 1 → decide (emY p hd i < emX p hd i) = false → decide (emY p hd j < emX p hd j) = false := fun j hj q => by
        by_cases e : j = i
        · subst e; exact q
        · exact hno j (by omega)
      have hbad : decide (emY p hd i < emX p hd i) = true → orE (if emBad n' p hd = -1 then 0 else 18) .nils (.sl n' 2 (fun i => [.int .i64 (emX p hd i), .int .i64 (emY p hd i)])) = .tup [.nils, .int .i64 18] := fun q => by
        have hh : emBad n' p hd = ((0 + i : Nat) : Int) := idxF_hit (i := 0) (k := i) hlt (by rw [Nat.zero_add]; exact q) fun j hj => by rw [Nat.zero_add]; exact hno j hj
        rw [hh, if_neg (by omega)]; rfl
      by_cases c1 : 0 < cell p i 1
      · have d1 : decide (0 < cell p i 1) = true := decide_eq_true c1
        have d2 : decide (cell p i 1 = 0) = false := decide_eq_false (by omega)
        have hX : emX p hd i = (cell hd i 0 * 1000 + cell p i 1 - 1) / cell p i 1 := by unfold emX emLo; rw [if_pos c1]
        by_cases c2 : 0 < cell p i 0
        · have d3 : decide (0 < cell p i 0) = true := decide_eq_true c2
          have hY : emY p hd i = min 10000000000000 (cell hd i 1 * 1000 / cell p i 0) := by unfold emY emHi; rw [if_pos c2]
          cases hxy : decide (emY p hd i < emX p hd i)
          · have hxy2 := hxy
            rw [hX, hY] at hxy2
            rw [← hq0]
            clear hq0
            simp (maxSteps := 4000000) only [go_sem, ↓op_move, ↓op_assign, ↓op_pick, ↓op_alloc, ↓op_box, ↓op_build, ↓op_buildSlice, ↓op_load, ↓op_store, ↓op_nilCheck, ↓op_bin, ↓op_un, ↓op_convert, ↓op_makeFunc, ↓op_makeSlice, ↓op_slice, ↓op_fieldAddr, ↓op_field, ↓op_indexAddr, ↓op_index, ↓op_extract, ↓op_lookup, ↓op_mapUpdate, ↓op_makeMap, ↓op_range, ↓op_next, ↓op_call, ↓op_builtin, ↓g_tt, ↓g_ff, ↓g_tf, ↓g_ft, ↓g_tnt, ↓g_tnf, ↓g_fnt, ↓g_fnf, ↓mkT_getD, hd1, hgp, hge, hpp, hpe, d1, d2, d3, hxy2, hk0, hk1, hk2, hk3]
            exact ⟨⟨by omega, by omega⟩, ⟨by omega, by omega⟩, inK_of (by omega) (by omega), ⟨by omega, by omega⟩, ⟨by omega, by omega, by omega, by omega⟩, ⟨by omega, by omega⟩, ⟨by omega, by omega⟩, ⟨by omega, by omega⟩, inK_of (by omega) (by omega), ⟨by omega, by omega⟩, ⟨by omega, by omega, by omega, by omega⟩, ⟨by omega, by omega, row_ok rfl ones2⟩, inK_of (by omega) (by omega), i + 1, ⟨hlt, fun j hj => of_decide_eq_false (hnx j hj hxy)⟩, by omega, ⟨rfl, by rw [Int.natCast_add]; rfl⟩, HpLe.arr1 (updH_same _ _ _) rfl rfl fun j hj => snoc (f := fun i => [V.int .i64 (emX p hd i), V.int .i64 (emY p hd i)]) rfl (show [V.int .i64 (emX p hd i), V.int .i64 (emY p hd i)] = _ by rw [hX, hY]) hj⟩
          · have hxy2 := hxy
            rw [hX, hY] at hxy2
            rw [← hq0]
            clear hq0
            simp (maxSteps := 4000000) only [go_sem, ↓op_move, ↓op_assign, ↓op_pick, ↓op_alloc, ↓op_box, ↓op_build, ↓op_buildSlice, ↓op_load, ↓op_store, ↓op_nilCheck, ↓op_bin, ↓op_un, ↓op_convert, ↓op_makeFunc, ↓op_makeSlice, ↓op_slice, ↓op_fieldAddr, ↓op_field, ↓op_indexAddr, ↓op_index, ↓op_extract, ↓op_lookup, ↓op_mapUpdate, ↓op_makeMap, ↓op_range, ↓op_next, ↓op_call, ↓op_builtin, ↓g_tt, ↓g_ff, ↓g_tf, ↓g_ft, ↓g_tnt, ↓g_tnf, ↓g_fnt, ↓g_fnf, ↓mkT_getD, hd1, hgp, hge, hpp, hpe, d1, d2, d3, hxy2, hk0, hk1, hk2, hk3]
            exact ⟨⟨by omega, by omega⟩, ⟨by omega, by omega⟩, inK_of (by omega) (by omega), ⟨by omega, by omega⟩, ⟨by omega, by omega, by omega, by omega⟩, ⟨by omega, by omega⟩, ⟨by omega, by omega⟩, ⟨by omega, by omega⟩, inK_of (by omega) (by omega), ⟨by omega, by omega⟩, ⟨by omega, by omega, by omega, by omega⟩, VEnt.of_eq (hbad hxy).symm⟩
        · have d3 : decide (0 < cell p i 0) = false := decide_eq_false c2
          have hY : emY p hd i = 10000000000000 := by unfold emY emHi; rw [if_neg c2]
          cases hxy : decide (emY p hd i < emX p hd i)
          · have hxy2 := hxy
            rw [hX, hY] at hxy2
            rw [← hq0]
            clear hq0
            simp (maxSteps := 4000000) only [go_sem, ↓op_move, ↓op_assign, ↓op_pick, ↓op_alloc, ↓op_box, ↓op_build, ↓op_buildSlice, ↓op_load, ↓op_store, ↓op_nilCheck, ↓op_bin, ↓op_un, ↓op_convert, ↓op_makeFunc, ↓op_makeSlice, ↓op_slice, ↓op_fieldAddr, ↓op_field, ↓op_indexAddr, ↓op_index, ↓op_extract, ↓op_lookup, ↓op_mapUpdate, ↓op_makeMap, ↓op_range, ↓op_next, ↓op_call, ↓op_builtin, ↓g_tt, ↓g_ff, ↓g_tf, ↓g_ft, ↓g_tnt, ↓g_tnf, ↓g_fnt, ↓g_fnf, ↓mkT_getD, hd1, hgp, hge, hpp, hpe, d1, d2, d3, hxy2, hk0, hk1, hk2, hk3]
            exact ⟨⟨by omega, by omega⟩, ⟨by omega, by omega⟩, inK_of (by omega) (by omega), ⟨by omega, by omega⟩, ⟨by omega, by omega, by omega, by omega⟩, ⟨by omega, by omega⟩, ⟨by omega, by omega⟩, ⟨by omega, by omega, row_ok rfl ones2⟩, inK_of (by omega) (by omega), i + 1, ⟨hlt, fun j hj => of_decide_eq_false (hnx j hj hxy)⟩, by omega, ⟨rfl, by rw [Int.natCast_add]; rfl⟩, HpLe.arr1 (updH_same _ _ _) rfl rfl fun j hj => snoc (f := fun i => [V.int .i64 (emX p hd i), V.int .i64 (emY p hd i)]) rfl (show [V.int .i64 (emX p hd i), V.int .i64 (emY p hd i)] = _ by rw [hX, hY]) hj⟩
          · have hxy2 := hxy
            rw [hX, hY] at hxy2
            rw [← hq0]
            clear hq0
            simp (maxSteps := 4000000) only [go_sem, ↓op_move, ↓op_assign, ↓op_pick, ↓op_alloc, ↓op_box, ↓op_build, ↓op_buildSlice, ↓op_load, ↓op_store, ↓op_nilCheck, ↓op_bin, ↓op_un, ↓op_convert, ↓op_makeFunc, ↓op_makeSlice, ↓op_slice, ↓op_fieldAddr, ↓op_field, ↓op_indexAddr, ↓op_index, ↓op_extract, ↓op_lookup, ↓op_mapUpdate, ↓op_makeMap, ↓op_range, ↓op_next, ↓op_call, ↓op_builtin, ↓g_tt, ↓g_ff, ↓g_tf, ↓g_ft, ↓g_tnt, ↓g_tnf, ↓g_fnt, ↓g_fnf, ↓mkT_getD, hd1, hgp, hge, hpp, hpe, d1, d2, d3, hxy2, hk0, hk1, hk2, hk3]
            exact ⟨⟨by omega, by omega⟩, ⟨by omega, by omega⟩, inK_of (by omega) (by omega), ⟨by omega, by omega⟩, ⟨by omega, by omega, by omega, by omega⟩, ⟨by omega, by omega⟩, ⟨by omega, by omega⟩, VEnt.of_eq (hbad hxy).symm⟩
      · have d1 : decide (0 < cell p i 1) = false := decide_eq_false c1
        have d2 : decide (cell p i 1 = 0) = true := decide_eq_true (by omega)
        by_cases c4 : 0 < cell hd i 0
        · have d4 : decide (0 < cell hd i 0) = true := decide_eq_true c4
          have hX : emX p hd i = 10000000000001 := by unfold emX emLo; rw [if_neg c1, if_pos c4]
          have hxy : decide (emY p hd i < emX p hd i) = true := decide_eq_true (by rw [hX]; unfold emY; omega)
          rw [← hq0]
          clear hq0
          simp (maxSteps := 4000000) only [go_sem, ↓op_move, ↓op_assign, ↓op_pick, ↓op_alloc, ↓op_box, ↓op_build, ↓op_buildSlice, ↓op_load, ↓op_store, ↓op_nilCheck, ↓op_bin, ↓op_un, ↓op_convert, ↓op_makeFunc, ↓op_makeSlice, ↓op_slice, ↓op_fieldAddr, ↓op_field, ↓op_indexAddr, ↓op_index, ↓op_extract, ↓op_lookup, ↓op_mapUpdate, ↓op_makeMap, ↓op_range, ↓op_next, ↓op_call, ↓op_builtin, ↓g_tt, ↓g_ff, ↓g_tf, ↓g_ft, ↓g_tnt, ↓g_tnf, ↓g_fnt, ↓g_fnf, ↓mkT_getD, hd1, hgp, hge, hpp, hpe, d1, d2, d4, hk0, hk1, hk2, hk3]
          exact ⟨⟨by omega, by omega⟩, ⟨by omega, by omega⟩, ⟨by omega, by omega⟩, VEnt.of_eq (hbad hxy).symm⟩
        · have d4 : decide (0 < cell hd i 0) = false := decide_eq_false c4
          have hX : emX p hd i = 0 := by unfold emX emLo; rw [if_neg c1, if_neg c4]
          have hxy : decide (emY p hd i < emX p hd i) = false := decide_eq_false (by rw [hX]; unfold emY; omega)
          by_cases c2 : 0 < cell p i 0
          · have d3 : decide (0 < cell p i 0) = true := decide_eq_true c2
            have hY : emY p hd i = min 10000000000000 (cell hd i 1 * 1000 / cell p i 0) := by unfold emY emHi; rw [if_pos c2]
            have hxy2 := hxy
            rw [hX, hY] at hxy2
            rw [← hq0]
            clear hq0
            simp (maxSteps := 4000000) only [go_sem, ↓op_move, ↓op_assign, ↓op_pick, ↓op_alloc, ↓op_box, ↓op_build, ↓op_buildSlice, ↓op_load, ↓op_store, ↓op_nilCheck, ↓op_bin, ↓op_un, ↓op_convert, ↓op_makeFunc, ↓op_makeSlice, ↓op_slice, ↓op_fieldAddr, ↓op_field, ↓op_indexAddr, ↓op_index, ↓op_extract, ↓op_lookup, ↓op_mapUpdate, ↓op_makeMap, ↓op_range, ↓op_next, ↓op_call, ↓op_builtin, ↓g_tt, ↓g_ff, ↓g_tf, ↓g_ft, ↓g_tnt, ↓g_tnf, ↓g_fnt, ↓g_fnf, ↓mkT_getD, hd1, hgp, hge, hpp, hpe, d1, d2, d3, d4, hxy2, hk0, hk1, hk2, hk3]
            exact ⟨⟨by omega, by omega⟩, ⟨by omega, by omega⟩, ⟨by omega, by omega⟩, ⟨by omega, by omega⟩, ⟨by omega, by omega⟩, inK_of (by omega) (by omega), ⟨by omega, by omega⟩, ⟨by omega, by omega, by omega, by omega⟩, ⟨by omega, by omega, row_ok rfl ones2⟩, inK_of (by omega) (by omega), i + 1, ⟨hlt, fun j hj => of_decide_eq_false (hnx j hj hxy)⟩, by omega, ⟨rfl, by rw [Int.natCast_add]; rfl⟩, HpLe.arr1 (updH_same _ _ _) rfl rfl fun j hj => snoc (f := fun i => [V.int .i64 (emX p hd i), V.int .i64 (emY p hd i)]) rfl (show [V.int .i64 (emX p hd i), V.int .i64 (emY p hd i)] = _ by rw [hX, hY]) hj⟩
          · have d3 : decide (0 < cell p i 0) = false := decide_eq_false c2
            have hY : emY p hd i = 10000000000000 := by unfold emY emHi; rw [if_neg c2]
            have hxy2 := hxy
            rw [hX, hY] at hxy2
            rw [← hq0]
            clear hq0
            simp (maxSteps := 4000000) only [go_sem, ↓op_move, ↓op_assign, ↓op_pick, ↓op_alloc, ↓op_box, ↓op_build, ↓op_buildSlice, ↓op_load, ↓op_store, ↓op_nilCheck, ↓op_bin, ↓op_un, ↓op_convert, ↓op_makeFunc, ↓op_makeSlice, ↓op_slice, ↓op_fieldAddr, ↓op_field, ↓op_indexAddr, ↓op_index, ↓op_extract, ↓op_lookup, ↓op_mapUpdate, ↓op_makeMap, ↓op_range, ↓op_next, ↓op_call, ↓op_builtin, ↓g_tt, ↓g_ff, ↓g_tf, ↓g_ft, ↓g_tnt, ↓g_tnf, ↓g_fnt, ↓g_fnf, ↓mkT_getD, hd1, hgp, hge, hpp, hpe, d1, d2, d3, d4, hxy2, hk0, hk1, hk2, hk3]
            exact ⟨⟨by omega, by omega⟩, ⟨by omega, by omega⟩, ⟨by omega, by omega⟩, ⟨by omega, by omega⟩, ⟨by omega, by omega, row_ok rfl ones2⟩, inK_of (by omega) (by omega), i + 1, ⟨hlt, fun j hj => of_decide_eq_false (hnx j hj hxy)⟩, by omega, ⟨rfl, by rw [Int.natCast_add]; rfl⟩, HpLe.arr1 (updH_same _ _ _) rfl rfl fun j hj => snoc (f := fun i => [V.int .i64 (emX p hd i), V.int .i64 (emY p hd i)]) rfl (show [V.int .i64 (emX p hd i), V.int .i64 (emY p hd i)] = _ by rw [hX, hY]) hj⟩
    · have hd1 : decide ((i : Int) < (n' : Int)) = false := by simp; omega
      obtain rfl : i = n' := by omega
      have hh : emBad i p hd = -1 := idxF_none fun j hj => by rw [Nat.zero_add]; exact hno j hj
      have hgood : orE (if emBad i p hd = -1 then 0 else 18) .nils (.sl i 2 (fun k => [.int .i64 (emX p hd k), .int .i64 (emY p hd k)])) = .tup [.sl i 2 (fun k => [.int .i64 (emX p hd k), .int .i64 (emY p hd k)]), .int .i64 0] := by rw [hh]; rfl
      rw [← hq0]
      clear hq0
      simp (maxSteps := 4000000) only [go_sem, ↓op_move, ↓op_assign, ↓op_pick, ↓op_alloc, ↓op_box, ↓op_build, ↓op_buildSlice, ↓op_load, ↓op_store, ↓op_nilCheck, ↓op_bin, ↓op_un, ↓op_convert, ↓op_makeFunc, ↓op_makeSlice, ↓op_slice, ↓op_fieldAddr, ↓op_field, ↓op_indexAddr, ↓op_index, ↓op_extract, ↓op_lookup, ↓op_mapUpdate, ↓op_makeMap, ↓op_range, ↓op_next, ↓op_call, ↓op_builtin, ↓g_tt, ↓g_ff, ↓g_tf, ↓g_ft, ↓g_tnt, ↓g_tnf, ↓g_fnt, ↓g_fnf, ↓mkT_getD, hd1, hpp, hpe, Nat.zero_add]
      exact VEnt.of_eq hgood.symm

theorem wArr_ok : Holds Proofs.Tryz.prog G0 6 airSoundC := by
  refine Holds.of_exC D6 Proofs.Tryz.func6 rfl foll (by kernel_rfl) (tab [(15, awakeC), (16, shortAirC), (17, airC), (19, ownAirC), (22, firstC), (30, toPathRC), (32, pathC), (36, ivsC), (39, passRC), (41, arr3C), (42, ownIntsC), (43, em3C), (44, ownListC), (45, energiesC), (46, hrdRC), (47, arRC), (48, emRC), (iceKey 4, iceC), (iceKey 5, iceC)]) (tab_ok ⟨lAwake_ok, rAirShort_ok, rAir_ok, lOwn_ok, qFirst_ok, lPath_ok, rPth_ok, lIvs_ok, rPassed_ok, gArr_ok, lInts_ok, gEm_ok, lList_ok, rChkEn_ok, rChkHd_ok, rArr_ok, rEm_ok, ice_holds, ice_holds, trivial⟩) G0_ok fun k0 rl args hpu hpre => ?_
  unfold airSoundC at hpre ⊢
  split at hpre
  rotate_left
  · exact hpre.elim
  rename_i n sz get a b c d e f m szm en m2 szm2 hd
  obtain ⟨rfl, hair, rfl, hen, rfl, hhd⟩ := hpre
  have hp := hair.pu
  have hpe := hen.pu
  have hph := hhd.pu
  have hn := hair.1
  cases hsh : shortAirB n get
  · simp only [Proofs.Tryz.f6]
    rw [enter_mkT (Nat.le_of_ble_eq_true rfl)]
    simp (maxSteps := 4000000) only [go_sem, ↓op_move, ↓op_assign, ↓op_pick, ↓op_alloc, ↓op_box, ↓op_build, ↓op_buildSlice, ↓op_load, ↓op_store, ↓op_nilCheck, ↓op_bin, ↓op_un, ↓op_convert, ↓op_makeFunc, ↓op_makeSlice, ↓op_slice, ↓op_fieldAddr, ↓op_field, ↓op_indexAddr, ↓op_index, ↓op_extract, ↓op_lookup, ↓op_mapUpdate, ↓op_makeMap, ↓op_range, ↓op_next, ↓op_call, ↓op_builtin, ↓g_tt, ↓g_ff, ↓g_tf, ↓g_ft, ↓g_tnt, ↓g_tnf, ↓g_fnt, ↓g_fnf, ↓mkT_getD, hp, hpe, hph, hsh]
    exact ⟨hair, VEnt.refl _⟩
  · by_cases hm : (9 : Int) < (m : Int)
    · have hmd : decide ((9 : Int) < (m : Int)) = true := decide_eq_true hm
      simp only [Proofs.Tryz.f6]
      rw [enter_mkT (Nat.le_of_ble_eq_true rfl)]
      simp (maxSteps := 4000000) only [go_sem, ↓op_move, ↓op_assign, ↓op_pick, ↓op_alloc, ↓op_box, ↓op_build, ↓op_buildSlice, ↓op_load, ↓op_store, ↓op_nilCheck, ↓op_bin, ↓op_un, ↓op_convert, ↓op_makeFunc, ↓op_makeSlice, ↓op_slice, ↓op_fieldAddr, ↓op_field, ↓op_indexAddr, ↓op_index, ↓op_extract, ↓op_lookup, ↓op_mapUpdate, ↓op_makeMap, ↓op_range, ↓op_next, ↓op_call, ↓op_builtin, ↓g_tt, ↓g_ff, ↓g_tf, ↓g_ft, ↓g_tnt, ↓g_tnf, ↓g_fnt, ↓g_fnf, ↓mkT_getD, hp, hpe, hph, hsh, hmd]
      exact ⟨hair, VEnt.refl _⟩
    · have hmd : decide ((9 : Int) < (m : Int)) = false := decide_eq_false hm
      by_cases hm2 : (9 : Int) < (m2 : Int)
      · have hmd2 : decide ((9 : Int) < (m2 : Int)) = true := decide_eq_true hm2
        simp only [Proofs.Tryz.f6]
        rw [enter_mkT (Nat.le_of_ble_eq_true rfl)]
        simp (maxSteps := 4000000) only [go_sem, ↓op_move, ↓op_assign, ↓op_pick, ↓op_alloc, ↓op_box, ↓op_build, ↓op_buildSlice, ↓op_load, ↓op_store, ↓op_nilCheck, ↓op_bin, ↓op_un, ↓op_convert, ↓op_makeFunc, ↓op_makeSlice, ↓op_slice, ↓op_fieldAddr, ↓op_field, ↓op_indexAddr, ↓op_index, ↓op_extract, ↓op_lookup, ↓op_mapUpdate, ↓op_makeMap, ↓op_range, ↓op_next, ↓op_call, ↓op_builtin, ↓g_tt, ↓g_ff, ↓g_tf, ↓g_ft, ↓g_tnt, ↓g_tnf, ↓g_fnt, ↓g_fnf, ↓mkT_getD, hp, hpe, hph, hsh, hmd, hmd2]
        exact ⟨hair, VEnt.refl _⟩
      · have hmd2 : decide ((9 : Int) < (m2 : Int)) = false := decide_eq_false hm2
        obtain ⟨hn9, hb9⟩ := short_use hsh
        have hown : IsAir n get ∧ n ≤ 1000 ∧ ∀ i, i < n → inN get i 4 ≤ 1000 := ⟨hair, by omega, fun i hi => by have := hb9 i hi; omega⟩
        have hce : firstL [airE n get, pathE a b c d e f] = checkE n get a b c d e f := rfl
        by_cases h2 : checkE n get a b c d e f = 0
        · have d2 : decide (checkE n get a b c d e f = 0) = true := decide_eq_true h2
          obtain ⟨hae, hpath⟩ := checkE_zero.1 h2
          have hok := airE_ok hae
          have hb8 := hok.bands
          have hcn := hok.cnt
          obtain ⟨hg0, hiv0⟩ := hair.2 0 hcn.1
          have hp0 := hiv0.pu
          have hpb := fun i hi => d_bd (k := i) hok hpath hi
          have hA : arr3E n get a b c d e f m en = energiesE m en (inN get 0 4) 10000000000000 := by unfold arr3E; rw [if_neg (by simp [h2])]
          have hM : em3E n get a b c d e f m2 hd = if hrdI m2 hd (inN get 0 4) ≠ 0 then hrdI m2 hd (inN get 0 4) else if idxF (fun i => decide (emB n get a b c d e f hd i < emA n get a b c d e f hd i)) 0 m2 = -1 then 0 else 18 := by
            unfold em3E; rw [if_neg (by simp [h2])]; rfl
          have hbs : idxF (fun i => decide (emB n get a b c d e f hd i < emA n get a b c d e f hd i)) 0 m2 = emBad m2 (fun k => [V.int .i64 (dLo n get a b c d e f k), V.int .i64 (dHi n get a b c d e f k)]) hd := rfl
          rw [hbs] at hM
          have hp_is : IsIv (inN get 0 4) (fun k => [V.int .i64 (dLo n get a b c d e f k), V.int .i64 (dHi n get a b c d e f k)]) := isIv_fn _ _ (by omega)
          have hppu := hp_is.pu
          have hE0 : energiesE m en (inN get 0 4) 10000000000000 = 0 → m = inN get 0 4 ∧ ∀ i, i < m → 0 ≤ intAt en i ∧ intAt en i ≤ 10000000000000 := fun q => by
            have hz := firstL_zero.1 q
            have h1 := hz (err (!decide ((m : Int) = (inN get 0 4 : Int))) 2) (by simp)
            rw [err_zero (by decide)] at h1
            simp at h1
            exact ⟨by omega, rngs_zero.1 (hz (rngs m en 0 10000000000000) (by simp))⟩
          have hH0 : hrdI m2 hd (inN get 0 4) = 0 → m2 = inN get 0 4 ∧ ∀ i, i < m2 → 0 ≤ cell hd i 0 ∧ cell hd i 0 ≤ cell hd i 1 ∧ cell hd i 1 ≤ 10000000000000 := fun q => by
            have hz := firstL_zero.1 q
            have h1 := hz (err (!decide ((m2 : Int) = (inN get 0 4 : Int))) 2) (by simp)
            rw [err_zero (by decide)] at h1
            simp at h1
            exact ⟨by omega, fun i hi => ivE_zero.1 (firstI_zero.1 (hz (firstI (fun i => ivE (cell hd i 0) (cell hd i 1) 10000000000000) 0 m2) (by simp)) i (Nat.zero_le _) (by omega))⟩
          by_cases hE : energiesE m en (inN get 0 4) 10000000000000 = 0
          · have dE : decide (energiesE m en (inN get 0 4) 10000000000000 = 0) = true := decide_eq_true hE
            have oE := orE_noA hE
            obtain ⟨hme, heb⟩ := hE0 hE
            subst hme
            by_cases hH : hrdI m2 hd (inN get 0 4) = 0
            · have dH : decide (hrdI m2 hd (inN get 0 4) = 0) = true := decide_eq_true hH
              rw [if_neg (by simp [hH])] at hM
              obtain ⟨hm2e, hhb⟩ := hH0 hH
              subst hm2e
              by_cases hB : emBad (inN get 0 4) (fun k => [V.int .i64 (dLo n get a b c d e f k), V.int .i64 (dHi n get a b c d e f k)]) hd = -1
              · rw [if_pos hB] at hM
                have oB : ∀ z g : V, orE (if emBad (inN get 0 4) (fun k => [V.int .i64 (dLo n get a b c d e f k), V.int .i64 (dHi n get a b c d e f k)]) hd = -1 then 0 else 18) z g = .tup [g, .int .i64 0] := fun z g => by rw [if_pos hB]; rfl
                simp only [Proofs.Tryz.f6]
                rw [enter_mkT (Nat.le_of_ble_eq_true rfl)]
                simp (maxSteps := 4000000) only [go_sem, ↓op_move, ↓op_assign, ↓op_pick, ↓op_alloc, ↓op_box, ↓op_build, ↓op_buildSlice, ↓op_load, ↓op_store, ↓op_nilCheck, ↓op_bin, ↓op_un, ↓op_convert, ↓op_makeFunc, ↓op_makeSlice, ↓op_slice, ↓op_fieldAddr, ↓op_field, ↓op_indexAddr, ↓op_index, ↓op_extract, ↓op_lookup, ↓op_mapUpdate, ↓op_makeMap, ↓op_range, ↓op_next, ↓op_call, ↓op_builtin, ↓g_tt, ↓g_ff, ↓g_tf, ↓g_ft, ↓g_tnt, ↓g_tnf, ↓g_fnt, ↓g_fnf, ↓mkT_getD, hp, hpe, hph, hp0, hg0, hsh, hmd, hmd2, hce, d2, hA, hM, hppu, oE, dE, dH, oB, orE_0, dec_self]
                exact ⟨hair, hown, ⟨hen, by omega⟩, ⟨hair, hen, by omega⟩, hown, ⟨hhd, by omega⟩, ⟨hair, hhd, by omega⟩, hair, by omega, ⟨hen, by omega⟩, ⟨hhd, by omega⟩, ⟨hair, hok, hpath⟩, ⟨hp_is, hen, by omega, fun i hi => by have h1 := hpb i hi; have h3 := heb i hi; omega⟩, ⟨hair, hok, hpath⟩, ⟨hp_is, hhd, by omega, fun i hi => by have h1 := hpb i hi; have h3 := hhb i hi; omega⟩, by rw [hE]; exact ivs_fn (by omega), ivs_fn (f := fun i => emA n get a b c d e f hd i) (g := fun i => emB n get a b c d e f hd i) (by omega), VEnt.refl _⟩
              · rw [if_neg hB] at hM
                have oB : ∀ z g : V, orE (if emBad (inN get 0 4) (fun k => [V.int .i64 (dLo n get a b c d e f k), V.int .i64 (dHi n get a b c d e f k)]) hd = -1 then 0 else 18) z g = .tup [z, .int .i64 18] := fun z g => by rw [if_neg hB]; rfl
                have o18 : ∀ z g : V, orE 18 z g = .tup [z, .int .i64 18] := fun z g => rfl
                simp only [Proofs.Tryz.f6]
                rw [enter_mkT (Nat.le_of_ble_eq_true rfl)]
                simp (maxSteps := 4000000) only [go_sem, ↓op_move, ↓op_assign, ↓op_pick, ↓op_alloc, ↓op_box, ↓op_build, ↓op_buildSlice, ↓op_load, ↓op_store, ↓op_nilCheck, ↓op_bin, ↓op_un, ↓op_convert, ↓op_makeFunc, ↓op_makeSlice, ↓op_slice, ↓op_fieldAddr, ↓op_field, ↓op_indexAddr, ↓op_index, ↓op_extract, ↓op_lookup, ↓op_mapUpdate, ↓op_makeMap, ↓op_range, ↓op_next, ↓op_call, ↓op_builtin, ↓g_tt, ↓g_ff, ↓g_tf, ↓g_ft, ↓g_tnt, ↓g_tnf, ↓g_fnt, ↓g_fnf, ↓mkT_getD, hp, hpe, hph, hp0, hg0, hsh, hmd, hmd2, hce, d2, hA, hM, hppu, oE, dE, dH, oB, o18, dec_self]
                exact ⟨hair, hown, ⟨hen, by omega⟩, ⟨hair, hen, by omega⟩, hown, ⟨hhd, by omega⟩, ⟨hair, hhd, by omega⟩, hair, by omega, ⟨hen, by omega⟩, ⟨hhd, by omega⟩, ⟨hair, hok, hpath⟩, ⟨hp_is, hen, by omega, fun i hi => by have h1 := hpb i hi; have h3 := heb i hi; omega⟩, ⟨hair, hok, hpath⟩, ⟨hp_is, hhd, by omega, fun i hi => by have h1 := hpb i hi; have h3 := hhb i hi; omega⟩, by rw [hE]; exact ivs_fn (by omega), ivs_err (by decide) .nils, VEnt.refl _⟩
            · have dH : decide (hrdI m2 hd (inN get 0 4) = 0) = false := decide_eq_false hH
              rw [if_pos hH] at hM
              have oH := orE_errA hH
              simp only [Proofs.Tryz.f6]
              rw [enter_mkT (Nat.le_of_ble_eq_true rfl)]
              simp (maxSteps := 4000000) only [go_sem, ↓op_move, ↓op_assign, ↓op_pick, ↓op_alloc, ↓op_box, ↓op_build, ↓op_buildSlice, ↓op_load, ↓op_store, ↓op_nilCheck, ↓op_bin, ↓op_un, ↓op_convert, ↓op_makeFunc, ↓op_makeSlice, ↓op_slice, ↓op_fieldAddr, ↓op_field, ↓op_indexAddr, ↓op_index, ↓op_extract, ↓op_lookup, ↓op_mapUpdate, ↓op_makeMap, ↓op_range, ↓op_next, ↓op_call, ↓op_builtin, ↓g_tt, ↓g_ff, ↓g_tf, ↓g_ft, ↓g_tnt, ↓g_tnf, ↓g_fnt, ↓g_fnf, ↓mkT_getD, hp, hpe, hph, hp0, hg0, hsh, hmd, hmd2, hce, d2, hA, hM, hppu, oE, dE, dH, oH, dec_self]
              exact ⟨hair, hown, ⟨hen, by omega⟩, ⟨hair, hen, by omega⟩, hown, ⟨hhd, by omega⟩, ⟨hair, hhd, by omega⟩, hair, by omega, ⟨hen, by omega⟩, ⟨hhd, by omega⟩, ⟨hair, hok, hpath⟩, ⟨hp_is, hen, by omega, fun i hi => by have h1 := hpb i hi; have h3 := heb i hi; omega⟩, by rw [hE]; exact ivs_fn (by omega), ivs_err hH .nils, VEnt.refl _⟩
          · have dE : decide (energiesE m en (inN get 0 4) 10000000000000 = 0) = false := decide_eq_false hE
            have oE := orE_errA hE
            by_cases hH : hrdI m2 hd (inN get 0 4) = 0
            · have dH : decide (hrdI m2 hd (inN get 0 4) = 0) = true := decide_eq_true hH
              rw [if_neg (by simp [hH])] at hM
              obtain ⟨hm2e, hhb⟩ := hH0 hH
              subst hm2e
              by_cases hB : emBad (inN get 0 4) (fun k => [V.int .i64 (dLo n get a b c d e f k), V.int .i64 (dHi n get a b c d e f k)]) hd = -1
              · rw [if_pos hB] at hM
                have oB : ∀ z g : V, orE (if emBad (inN get 0 4) (fun k => [V.int .i64 (dLo n get a b c d e f k), V.int .i64 (dHi n get a b c d e f k)]) hd = -1 then 0 else 18) z g = .tup [g, .int .i64 0] := fun z g => by rw [if_pos hB]; rfl
                simp only [Proofs.Tryz.f6]
                rw [enter_mkT (Nat.le_of_ble_eq_true rfl)]
                simp (maxSteps := 4000000) only [go_sem, ↓op_move, ↓op_assign, ↓op_pick, ↓op_alloc, ↓op_box, ↓op_build, ↓op_buildSlice, ↓op_load, ↓op_store, ↓op_nilCheck, ↓op_bin, ↓op_un, ↓op_convert, ↓op_makeFunc, ↓op_makeSlice, ↓op_slice, ↓op_fieldAddr, ↓op_field, ↓op_indexAddr, ↓op_index, ↓op_extract, ↓op_lookup, ↓op_mapUpdate, ↓op_makeMap, ↓op_range, ↓op_next, ↓op_call, ↓op_builtin, ↓g_tt, ↓g_ff, ↓g_tf, ↓g_ft, ↓g_tnt, ↓g_tnf, ↓g_fnt, ↓g_fnf, ↓mkT_getD, hp, hpe, hph, hp0, hg0, hsh, hmd, hmd2, hce, d2, hA, hM, hppu, oE, dE, dH, oB, orE_0, dec_self]
                exact ⟨hair, hown, ⟨hen, by omega⟩, ⟨hair, hen, by omega⟩, hown, ⟨hhd, by omega⟩, ⟨hair, hhd, by omega⟩, hair, by omega, ⟨hen, by omega⟩, ⟨hhd, by omega⟩, ⟨hair, hok, hpath⟩, ⟨hp_is, hhd, by omega, fun i hi => by have h1 := hpb i hi; have h3 := hhb i hi; omega⟩, ivs_err hE .nils, ivs_fn (f := fun i => emA n get a b c d e f hd i) (g := fun i => emB n get a b c d e f hd i) (by omega), VEnt.refl _⟩
              · rw [if_neg hB] at hM
                have oB : ∀ z g : V, orE (if emBad (inN get 0 4) (fun k => [V.int .i64 (dLo n get a b c d e f k), V.int .i64 (dHi n get a b c d e f k)]) hd = -1 then 0 else 18) z g = .tup [z, .int .i64 18] := fun z g => by rw [if_neg hB]; rfl
                have o18 : ∀ z g : V, orE 18 z g = .tup [z, .int .i64 18] := fun z g => rfl
                simp only [Proofs.Tryz.f6]
                rw [enter_mkT (Nat.le_of_ble_eq_true rfl)]
                simp (maxSteps := 4000000) only [go_sem, ↓op_move, ↓op_assign, ↓op_pick, ↓op_alloc, ↓op_box, ↓op_build, ↓op_buildSlice, ↓op_load, ↓op_store, ↓op_nilCheck, ↓op_bin, ↓op_un, ↓op_convert, ↓op_makeFunc, ↓op_makeSlice, ↓op_slice, ↓op_fieldAddr, ↓op_field, ↓op_indexAddr, ↓op_index, ↓op_extract, ↓op_lookup, ↓op_mapUpdate, ↓op_makeMap, ↓op_range, ↓op_next, ↓op_call, ↓op_builtin, ↓g_tt, ↓g_ff, ↓g_tf, ↓g_ft, ↓g_tnt, ↓g_tnf, ↓g_fnt, ↓g_fnf, ↓mkT_getD, hp, hpe, hph, hp0, hg0, hsh, hmd, hmd2, hce, d2, hA, hM, hppu, oE, dE, dH, oB, o18, dec_self]
                exact ⟨hair, hown, ⟨hen, by omega⟩, ⟨hair, hen, by omega⟩, hown, ⟨hhd, by omega⟩, ⟨hair, hhd, by omega⟩, hair, by omega, ⟨hen, by omega⟩, ⟨hhd, by omega⟩, ⟨hair, hok, hpath⟩, ⟨hp_is, hhd, by omega, fun i hi => by have h1 := hpb i hi; have h3 := hhb i hi; omega⟩, ivs_err hE .nils, ivs_err (by decide) .nils, VEnt.refl _⟩
            · have dH : decide (hrdI m2 hd (inN get 0 4) = 0) = false := decide_eq_false hH
              rw [if_pos hH] at hM
              have oH := orE_errA hH
              simp only [Proofs.Tryz.f6]
              rw [enter_mkT (Nat.le_of_ble_eq_true rfl)]
              simp (maxSteps := 4000000) only [go_sem, ↓op_move, ↓op_assign, ↓op_pick, ↓op_alloc, ↓op_box, ↓op_build, ↓op_buildSlice, ↓op_load, ↓op_store, ↓op_nilCheck, ↓op_bin, ↓op_un, ↓op_convert, ↓op_makeFunc, ↓op_makeSlice, ↓op_slice, ↓op_fieldAddr, ↓op_field, ↓op_indexAddr, ↓op_index, ↓op_extract, ↓op_lookup, ↓op_mapUpdate, ↓op_makeMap, ↓op_range, ↓op_next, ↓op_call, ↓op_builtin, ↓g_tt, ↓g_ff, ↓g_tf, ↓g_ft, ↓g_tnt, ↓g_tnf, ↓g_fnt, ↓g_fnf, ↓mkT_getD, hp, hpe, hph, hp0, hg0, hsh, hmd, hmd2, hce, d2, hA, hM, hppu, oE, dE, dH, oH, dec_self]
              exact ⟨hair, hown, ⟨hen, by omega⟩, ⟨hair, hen, by omega⟩, hown, ⟨hhd, by omega⟩, ⟨hair, hhd, by omega⟩, hair, by omega, ⟨hen, by omega⟩, ⟨hhd, by omega⟩, ivs_err hE .nils, ivs_err hH .nils, VEnt.refl _⟩
        · have d2 : decide (checkE n get a b c d e f = 0) = false := decide_eq_false h2
          have o2 := orE_errA h2
          have hA : arr3E n get a b c d e f m en = checkE n get a b c d e f := by unfold arr3E; rw [if_pos h2]
          have hM : em3E n get a b c d e f m2 hd = checkE n get a b c d e f := by unfold em3E; rw [if_pos h2]
          simp only [Proofs.Tryz.f6]
          rw [enter_mkT (Nat.le_of_ble_eq_true rfl)]
          simp (maxSteps := 4000000) only [go_sem, ↓op_move, ↓op_assign, ↓op_pick, ↓op_alloc, ↓op_box, ↓op_build, ↓op_buildSlice, ↓op_load, ↓op_store, ↓op_nilCheck, ↓op_bin, ↓op_un, ↓op_convert, ↓op_makeFunc, ↓op_makeSlice, ↓op_slice, ↓op_fieldAddr, ↓op_field, ↓op_indexAddr, ↓op_index, ↓op_extract, ↓op_lookup, ↓op_mapUpdate, ↓op_makeMap, ↓op_range, ↓op_next, ↓op_call, ↓op_builtin, ↓g_tt, ↓g_ff, ↓g_tf, ↓g_ft, ↓g_tnt, ↓g_tnf, ↓g_fnt, ↓g_fnf, ↓mkT_getD, hp, hpe, hph, hsh, hmd, hmd2, hce, o2, d2, hA, hM, dec_self]
          exact ⟨hair, hown, ⟨hen, by omega⟩, ⟨hair, hen, by omega⟩, hown, ⟨hhd, by omega⟩, ⟨hair, hhd, by omega⟩, hair, ivs_err h2 .nils, ivs_err h2 .nils, VEnt.refl _⟩
end Go.Fly.Tryz
