/- Part of a proof: an evaluator of the model's code by abstract values, and plain laws for it. No conditions. -/
import Derived.Test.YtmlknpghkclffaaGreatDoorSYAHE
import Derived.Test.YtmlknpghkclffaaGreatDoorAZ
set_option linter.unusedSimpArgs false
set_option linter.unusedVariables false
section
/- The reference's layers, and the law on them. -/
set_option maxRecDepth 100000
set_option maxHeartbeats 8000000
namespace Go.Fly.Tryz
open Go

theorem lTold_ok : Holds Proofs.Tryz.prog G0 64 toldC := by
  refine Holds.of_exC D64 Proofs.Tryz.func64 rfl foll (by kernel_rfl) (tab []) (tab_ok trivial) G0_ok fun k0 rl args hpu hpre => ?_
  unfold toldC at hpre ⊢
  split at hpre
  rotate_left
  · exact hpre.elim
  rename_i n sz get
  obtain ⟨rfl, hair, hn6⟩ := hpre
  have hp := hair.pu
  simp only [Proofs.Tryz.f64]
  rw [enter_mkT (Nat.le_of_ble_eq_true rfl)]
  simp (maxSteps := 4000000) only [go_sem, ↓op_move, ↓op_assign, ↓op_pick, ↓op_alloc, ↓op_box, ↓op_build, ↓op_buildSlice, ↓op_load, ↓op_store, ↓op_nilCheck, ↓op_bin, ↓op_un, ↓op_convert, ↓op_makeFunc, ↓op_makeSlice, ↓op_slice, ↓op_fieldAddr, ↓op_field, ↓op_indexAddr, ↓op_index, ↓op_extract, ↓op_lookup, ↓op_mapUpdate, ↓op_makeMap, ↓op_range, ↓op_next, ↓op_call, ↓op_builtin, ↓g_tt, ↓g_ff, ↓g_tf, ↓g_ft, ↓g_tnt, ↓g_tnf, ↓g_fnt, ↓g_fnf, ↓mkT_getD, hp]
  refine RestT.ents (Ents.nilArr (d := 3) (l := (4, 1000)) 5 (fun _ => []) rfl rfl rfl) ?_
  simp only [go_sem, ↓op_move, ↓op_assign, ↓op_pick, ↓op_alloc, ↓op_box, ↓op_build, ↓op_buildSlice, ↓op_load, ↓op_store, ↓op_nilCheck, ↓op_bin, ↓op_un, ↓op_convert, ↓op_makeFunc, ↓op_makeSlice, ↓op_slice, ↓op_fieldAddr, ↓op_field, ↓op_indexAddr, ↓op_index, ↓op_extract, ↓op_lookup, ↓op_mapUpdate, ↓op_makeMap, ↓op_range, ↓op_next, ↓op_call, ↓op_builtin, ↓g_tt, ↓g_ff, ↓g_tf, ↓g_ft, ↓g_tnt, ↓g_tnf, ↓g_fnt, ↓g_fnf, ↓mkT_getD]
  refine RestT.loopF (β := Nat) [(3, 3), (5, 5), (8, 16)] (fun i => [(3, .msl (4, 1000) 0 i), (8, .int .i64 i)]) (fun i => updH (fun _ => none) (4, 1000) (.arr i 5 get)) (fun i => i ≤ n) (fun i => n - i) 0 (Nat.zero_le _) ?_
    (HpLe.arr1 (updH_same _ _ _) rfl rfl fun i hi => by omega) ?_
  · simp (maxSteps := 4000000) only [go_sem, ↓op_move, ↓op_assign, ↓op_pick, ↓op_alloc, ↓op_box, ↓op_build, ↓op_buildSlice, ↓op_load, ↓op_store, ↓op_nilCheck, ↓op_bin, ↓op_un, ↓op_convert, ↓op_makeFunc, ↓op_makeSlice, ↓op_slice, ↓op_fieldAddr, ↓op_field, ↓op_indexAddr, ↓op_index, ↓op_extract, ↓op_lookup, ↓op_mapUpdate, ↓op_makeMap, ↓op_range, ↓op_next, ↓op_call, ↓op_builtin, ↓g_tt, ↓g_ff, ↓g_tf, ↓g_ft, ↓g_tnt, ↓g_tnf, ↓g_fnt, ↓g_fnf, ↓mkT_getD]
    try exact rfl
  · intro ck i hck hi
    generalize hq0 : exC _ _ _ _ _ = gg
    by_cases hlt : i < n
    · have hd : decide ((i : Int) < (n : Int)) = true := by simp; omega
      obtain ⟨hg, hiv⟩ := hair.2 i hlt
      have hp2 := hiv.pu
      rw [← hq0]
      clear hq0
      simp (maxSteps := 4000000) only [go_sem, ↓op_move, ↓op_assign, ↓op_pick, ↓op_alloc, ↓op_box, ↓op_build, ↓op_buildSlice, ↓op_load, ↓op_store, ↓op_nilCheck, ↓op_bin, ↓op_un, ↓op_convert, ↓op_makeFunc, ↓op_makeSlice, ↓op_slice, ↓op_fieldAddr, ↓op_field, ↓op_indexAddr, ↓op_index, ↓op_extract, ↓op_lookup, ↓op_mapUpdate, ↓op_makeMap, ↓op_range, ↓op_next, ↓op_call, ↓op_builtin, ↓g_tt, ↓g_ff, ↓g_tf, ↓g_ft, ↓g_tnt, ↓g_tnf, ↓g_fnt, ↓g_fnf, ↓mkT_getD, hd, hg, hp, hp2]
      exact ⟨⟨by omega, by omega⟩, ⟨by omega, by omega, row_ok rfl (ones5 hp2)⟩, inK_of (by omega) (by omega), i + 1, hlt, by omega, ⟨rfl, by rw [Int.natCast_add]; rfl⟩, HpLe.arr1 (updH_same _ _ _) rfl rfl fun j hj => snoc (f := get) rfl hg hj⟩
    · have hd : decide ((i : Int) < (n : Int)) = false := by simp; omega
      obtain rfl : i = n := by omega
      rw [← hq0]
      clear hq0
      simp (maxSteps := 4000000) only [go_sem, ↓op_move, ↓op_assign, ↓op_pick, ↓op_alloc, ↓op_box, ↓op_build, ↓op_buildSlice, ↓op_load, ↓op_store, ↓op_nilCheck, ↓op_bin, ↓op_un, ↓op_convert, ↓op_makeFunc, ↓op_makeSlice, ↓op_slice, ↓op_fieldAddr, ↓op_field, ↓op_indexAddr, ↓op_index, ↓op_extract, ↓op_lookup, ↓op_mapUpdate, ↓op_makeMap, ↓op_range, ↓op_next, ↓op_call, ↓op_builtin, ↓g_tt, ↓g_ff, ↓g_tf, ↓g_ft, ↓g_tnt, ↓g_tnf, ↓g_fnt, ↓g_fnf, ↓mkT_getD, hd, hp, Nat.zero_add]
      exact VEnt.sl fun j hj => frzRow_sl hp hj

theorem rSameA_ok : Holds Proofs.Tryz.prog G0 65 sameAirC := by
  refine Holds.of_exC D65 Proofs.Tryz.func65 rfl foll (by kernel_rfl) (tab [(63, sameIvC)]) (tab_ok ⟨rSame_ok, trivial⟩) G0_ok fun k0 rl args hpu hpre => ?_
  unfold sameAirC at hpre ⊢
  split at hpre
  rotate_left
  · exact hpre.elim
  rename_i n sz a n' sz' b
  obtain ⟨rfl, rfl, rfl, hair, he⟩ := hpre
  have hp := hair.pu
  have hairb : IsAir n' b := ⟨hair.1, fun i hi => by
    have := hair.2 i hi
    unfold cell inN inG at this ⊢
    rw [he i hi]
    exact this⟩
  have hpb := hairb.pu
  have hnn : decide ((n' : Int) = (n' : Int)) = true := decide_eq_true rfl
  have hn := hair.1
  simp only [Proofs.Tryz.f65]
  rw [enter_mkT (Nat.le_of_ble_eq_true rfl)]
  simp (maxSteps := 4000000) only [go_sem, ↓op_move, ↓op_assign, ↓op_pick, ↓op_alloc, ↓op_box, ↓op_build, ↓op_buildSlice, ↓op_load, ↓op_store, ↓op_nilCheck, ↓op_bin, ↓op_un, ↓op_convert, ↓op_makeFunc, ↓op_makeSlice, ↓op_slice, ↓op_fieldAddr, ↓op_field, ↓op_indexAddr, ↓op_index, ↓op_extract, ↓op_lookup, ↓op_mapUpdate, ↓op_makeMap, ↓op_range, ↓op_next, ↓op_call, ↓op_builtin, ↓g_tt, ↓g_ff, ↓g_tf, ↓g_ft, ↓g_tnt, ↓g_tnf, ↓g_fnt, ↓g_fnf, ↓mkT_getD, hp, hpb, hnn]
  refine RestT.loopF (β := Nat) [(4, 5), (11, 67)] (fun i => [(5, .int .i64 i)]) (fun _ => fun _ => none) (fun i => i ≤ n') (fun i => n' - i) 0 (Nat.zero_le _) ?_ HpLe.none ?_
  · simp (maxSteps := 4000000) only [go_sem, ↓op_move, ↓op_assign, ↓op_pick, ↓op_alloc, ↓op_box, ↓op_build, ↓op_buildSlice, ↓op_load, ↓op_store, ↓op_nilCheck, ↓op_bin, ↓op_un, ↓op_convert, ↓op_makeFunc, ↓op_makeSlice, ↓op_slice, ↓op_fieldAddr, ↓op_field, ↓op_indexAddr, ↓op_index, ↓op_extract, ↓op_lookup, ↓op_mapUpdate, ↓op_makeMap, ↓op_range, ↓op_next, ↓op_call, ↓op_builtin, ↓g_tt, ↓g_ff, ↓g_tf, ↓g_ft, ↓g_tnt, ↓g_tnf, ↓g_fnt, ↓g_fnf, ↓mkT_getD]
    try exact rfl
  · intro ck i hck hi
    generalize hq0 : exC _ _ _ _ _ = gg
    by_cases hlt : i < n'
    · have hd : decide ((i : Int) < (n' : Int)) = true := by simp; omega
      obtain ⟨hg, hiv⟩ := hair.2 i hlt
      have hp2 := hiv.pu
      have hgb := he i hlt
      rw [hg] at hgb
      have hs := sameG_true (n := inN a i 4) (a := inG a i 4) (b := inG a i 4) fun _ _ => ⟨rfl, rfl⟩
      rw [← hq0]
      clear hq0
      simp (maxSteps := 4000000) only [go_sem, ↓op_move, ↓op_assign, ↓op_pick, ↓op_alloc, ↓op_box, ↓op_build, ↓op_buildSlice, ↓op_load, ↓op_store, ↓op_nilCheck, ↓op_bin, ↓op_un, ↓op_convert, ↓op_makeFunc, ↓op_makeSlice, ↓op_slice, ↓op_fieldAddr, ↓op_field, ↓op_indexAddr, ↓op_index, ↓op_extract, ↓op_lookup, ↓op_mapUpdate, ↓op_makeMap, ↓op_range, ↓op_next, ↓op_call, ↓op_builtin, ↓g_tt, ↓g_ff, ↓g_tf, ↓g_ft, ↓g_tnt, ↓g_tnf, ↓g_fnt, ↓g_fnf, ↓mkT_getD, hd, hg, hgb, hp, hpb, hp2, dec_self, hs, Bool.and_self]
      exact ⟨⟨by omega, by omega⟩, ⟨by omega, by omega⟩, ⟨by omega, by omega⟩, ⟨by omega, by omega⟩, ⟨by omega, by omega⟩, ⟨by omega, by omega⟩, ⟨by omega, by omega⟩, ⟨by omega, by omega⟩, hiv, inK_of (by omega) (by omega), by omega, i + 1, hlt, by omega, by rw [Int.natCast_add]; rfl, HpLe.none⟩
    · have hd : decide ((i : Int) < (n' : Int)) = false := by simp; omega
      rw [← hq0]
      clear hq0
      simp (maxSteps := 4000000) only [go_sem, ↓op_move, ↓op_assign, ↓op_pick, ↓op_alloc, ↓op_box, ↓op_build, ↓op_buildSlice, ↓op_load, ↓op_store, ↓op_nilCheck, ↓op_bin, ↓op_un, ↓op_convert, ↓op_makeFunc, ↓op_makeSlice, ↓op_slice, ↓op_fieldAddr, ↓op_field, ↓op_indexAddr, ↓op_index, ↓op_extract, ↓op_lookup, ↓op_mapUpdate, ↓op_makeMap, ↓op_range, ↓op_next, ↓op_call, ↓op_builtin, ↓g_tt, ↓g_ff, ↓g_tf, ↓g_ft, ↓g_tnt, ↓g_tnf, ↓g_fnt, ↓g_fnf, ↓mkT_getD, hd, hp, hpb]
      exact VEnt.refl _

theorem lLays_ok : Holds Proofs.Tryz.prog G0 28 laysC := by
  refine Holds.of_exC D28 Proofs.Tryz.func28 rfl foll (by kernel_rfl) (tab [(64, toldC), (65, sameAirC)]) (tab_ok ⟨lTold_ok, rSameA_ok, trivial⟩) G0_ok fun k0 rl args hpu hpre => ?_
  unfold laysC at hpre ⊢
  split at hpre
  rotate_left
  · exact hpre.elim
  rename_i x e bad y
  rcases hpre with ⟨rfl, h0, rfl, hy⟩ | ⟨rfl, rfl, n, a, rfl, rfl, ha, hn6⟩
  · have hd2 : decide (e = 0) = false := decide_eq_false h0
    simp only [Proofs.Tryz.f28]
    rw [enter_mkT (Nat.le_of_ble_eq_true rfl)]
    simp (maxSteps := 4000000) only [go_sem, ↓op_move, ↓op_assign, ↓op_pick, ↓op_alloc, ↓op_box, ↓op_build, ↓op_buildSlice, ↓op_load, ↓op_store, ↓op_nilCheck, ↓op_bin, ↓op_un, ↓op_convert, ↓op_makeFunc, ↓op_makeSlice, ↓op_slice, ↓op_fieldAddr, ↓op_field, ↓op_indexAddr, ↓op_index, ↓op_extract, ↓op_lookup, ↓op_mapUpdate, ↓op_makeMap, ↓op_range, ↓op_next, ↓op_call, ↓op_builtin, ↓g_tt, ↓g_ff, ↓g_tf, ↓g_ft, ↓g_tnt, ↓g_tnf, ↓g_fnt, ↓g_fnf, ↓mkT_getD, dec_self, hd2, hy]
    exact VEnt.refl _
  · have hp1 := ha.pu
    simp only [Proofs.Tryz.f28]
    rw [enter_mkT (Nat.le_of_ble_eq_true rfl)]
    simp (maxSteps := 4000000) only [go_sem, ↓op_move, ↓op_assign, ↓op_pick, ↓op_alloc, ↓op_box, ↓op_build, ↓op_buildSlice, ↓op_load, ↓op_store, ↓op_nilCheck, ↓op_bin, ↓op_un, ↓op_convert, ↓op_makeFunc, ↓op_makeSlice, ↓op_slice, ↓op_fieldAddr, ↓op_field, ↓op_indexAddr, ↓op_index, ↓op_extract, ↓op_lookup, ↓op_mapUpdate, ↓op_makeMap, ↓op_range, ↓op_next, ↓op_call, ↓op_builtin, ↓g_tt, ↓g_ff, ↓g_tf, ↓g_ft, ↓g_tnt, ↓g_tnf, ↓g_fnt, ↓g_fnf, ↓mkT_getD, hp1]
    exact ⟨⟨ha, hn6⟩, ha, VEnt.refl _⟩

theorem rRev_ok : Holds Proofs.Tryz.prog G0 26 revRC := by
  refine Holds.of_exC D26 Proofs.Tryz.func26 rfl foll (by kernel_rfl) (tab []) (tab_ok trivial) G0_ok fun k0 rl args hpu hpre => ?_
  unfold revRC at hpre ⊢
  split at hpre
  rotate_left
  · exact hpre.elim
  rename_i n sz get
  obtain ⟨rfl, hair, hae⟩ := hpre
  have hp := hair.pu
  have hok := airE_ok hae
  have hcn := hok.cnt
  simp only [Proofs.Tryz.f26]
  rw [enter_mkT (Nat.le_of_ble_eq_true rfl)]
  simp (maxSteps := 4000000) only [go_sem, ↓op_move, ↓op_assign, ↓op_pick, ↓op_alloc, ↓op_box, ↓op_build, ↓op_buildSlice, ↓op_load, ↓op_store, ↓op_nilCheck, ↓op_bin, ↓op_un, ↓op_convert, ↓op_makeFunc, ↓op_makeSlice, ↓op_slice, ↓op_fieldAddr, ↓op_field, ↓op_indexAddr, ↓op_index, ↓op_extract, ↓op_lookup, ↓op_mapUpdate, ↓op_makeMap, ↓op_range, ↓op_next, ↓op_call, ↓op_builtin, ↓g_tt, ↓g_ff, ↓g_tf, ↓g_ft, ↓g_tnt, ↓g_tnf, ↓g_fnt, ↓g_fnf, ↓mkT_getD, hp]
  refine RestT.ents (Ents.nilArr (d := 3) (l := (4, 1000)) 5 (fun _ => []) rfl rfl rfl) ?_
  simp only [go_sem, ↓op_move, ↓op_assign, ↓op_pick, ↓op_alloc, ↓op_box, ↓op_build, ↓op_buildSlice, ↓op_load, ↓op_store, ↓op_nilCheck, ↓op_bin, ↓op_un, ↓op_convert, ↓op_makeFunc, ↓op_makeSlice, ↓op_slice, ↓op_fieldAddr, ↓op_field, ↓op_indexAddr, ↓op_index, ↓op_extract, ↓op_lookup, ↓op_mapUpdate, ↓op_makeMap, ↓op_range, ↓op_next, ↓op_call, ↓op_builtin, ↓g_tt, ↓g_ff, ↓g_tf, ↓g_ft, ↓g_tnt, ↓g_tnf, ↓g_fnt, ↓g_fnf, ↓mkT_getD]
  refine RestT.loopF (β := Nat) [(3, 29)] (fun i => [(3, .msl (4, 1000) 0 i), (4, .int .i64 i)]) (fun i => updH (fun _ => none) (4, 1000) (.arr i 5 (revG get))) (fun i => i ≤ n) (fun i => n - i) 0 (Nat.zero_le _) ?_
    (HpLe.arr1 (updH_same _ _ _) rfl rfl fun i hi => by omega) ?_
  · simp (maxSteps := 4000000) only [go_sem, ↓op_move, ↓op_assign, ↓op_pick, ↓op_alloc, ↓op_box, ↓op_build, ↓op_buildSlice, ↓op_load, ↓op_store, ↓op_nilCheck, ↓op_bin, ↓op_un, ↓op_convert, ↓op_makeFunc, ↓op_makeSlice, ↓op_slice, ↓op_fieldAddr, ↓op_field, ↓op_indexAddr, ↓op_index, ↓op_extract, ↓op_lookup, ↓op_mapUpdate, ↓op_makeMap, ↓op_range, ↓op_next, ↓op_call, ↓op_builtin, ↓g_tt, ↓g_ff, ↓g_tf, ↓g_ft, ↓g_tnt, ↓g_tnf, ↓g_fnt, ↓g_fnf, ↓mkT_getD]
    try exact rfl
  · intro ck i hck hi
    generalize hq0 : exC _ _ _ _ _ = gg
    by_cases hlt : i < n
    · have hd : decide ((i : Int) < (n : Int)) = true := by simp; omega
      obtain ⟨hg, hiv⟩ := hair.2 i hlt
      have hp2 := hiv.pu
      have w := airE_wind hae hlt
      rw [← hq0]
      clear hq0
      simp (maxSteps := 4000000) only [go_sem, ↓op_move, ↓op_assign, ↓op_pick, ↓op_alloc, ↓op_box, ↓op_build, ↓op_buildSlice, ↓op_load, ↓op_store, ↓op_nilCheck, ↓op_bin, ↓op_un, ↓op_convert, ↓op_makeFunc, ↓op_makeSlice, ↓op_slice, ↓op_fieldAddr, ↓op_field, ↓op_indexAddr, ↓op_index, ↓op_extract, ↓op_lookup, ↓op_mapUpdate, ↓op_makeMap, ↓op_range, ↓op_next, ↓op_call, ↓op_builtin, ↓g_tt, ↓g_ff, ↓g_tf, ↓g_ft, ↓g_tnt, ↓g_tnf, ↓g_fnt, ↓g_fnf, ↓mkT_getD, hd, hg, hp, hp2]
      have hrow : revG get i = [V.int .i64 (cell get i 0), V.int .i64 (cell get i 1), V.int .i64 (0 - cell get i 2), V.int .i64 (0 - cell get i 3), V.sl (inN get i 4) 2 (inG get i 4)] := by
        unfold revG; rw [Int.zero_sub, Int.zero_sub]
      exact ⟨⟨by omega, by omega⟩, inK_of (by omega) (by omega), inK_of (by omega) (by omega), ⟨by omega, by omega, row_ok rfl (ones5 hp2)⟩, inK_of (by omega) (by omega), i + 1, hlt, by omega, ⟨rfl, by rw [Int.natCast_add]; rfl⟩, HpLe.arr1 (updH_same _ _ _) rfl rfl fun j hj => snoc (f := revG get) rfl hrow hj⟩
    · have hd : decide ((i : Int) < (n : Int)) = false := by simp; omega
      obtain rfl : i = n := by omega
      rw [← hq0]
      clear hq0
      simp (maxSteps := 4000000) only [go_sem, ↓op_move, ↓op_assign, ↓op_pick, ↓op_alloc, ↓op_box, ↓op_build, ↓op_buildSlice, ↓op_load, ↓op_store, ↓op_nilCheck, ↓op_bin, ↓op_un, ↓op_convert, ↓op_makeFunc, ↓op_makeSlice, ↓op_slice, ↓op_fieldAddr, ↓op_field, ↓op_indexAddr, ↓op_index, ↓op_extract, ↓op_lookup, ↓op_mapUpdate, ↓op_makeMap, ↓op_range, ↓op_next, ↓op_call, ↓op_builtin, ↓g_tt, ↓g_ff, ↓g_tf, ↓g_ft, ↓g_tnt, ↓g_tnf, ↓g_fnt, ↓g_fnf, ↓mkT_getD, hd, hp, Nat.zero_add]
      exact VEnt.sl fun j hj => frzRow_sl (isAir_rev hair).pu hj

theorem rSpl_ok : Holds Proofs.Tryz.prog G0 25 splRC := by
  refine Holds.of_exC D25 Proofs.Tryz.func25 rfl foll (by kernel_rfl) (tab [(24, latRC), (92, botC)]) (tab_ok ⟨rLat_ok, rBot_ok, trivial⟩) G0_ok fun k0 rl args hpu hpre => ?_
  unfold splRC at hpre ⊢
  split at hpre
  rotate_left
  · exact hpre.elim
  rename_i n sz get h
  obtain ⟨rfl, hair, h1⟩ := hpre
  have hz := firstL_zero.1 h1
  have hae : airE n get = 0 := hz _ (by simp)
  have hh := rng_zero.1 (hz (rng h 1 10000) (by simp))
  have hp := hair.pu
  have hok := airE_ok hae
  have hcn := hok.cnt
  obtain ⟨I, hI, eI⟩ := atE_ok hok (h := h) (by omega)
  have hsI : splI n get h = I := by unfold splI; rw [eI]; exact Int.toNat_natCast I
  have hbI := bot_bd hok (show I ≤ n by omega)
  have htI := hok.th I hI
  by_cases hT : botE get I = h
  · have hE : splE n get h = 9 := by
      unfold splE spl2
      rw [h1, hsI, decide_eq_true hT]
      simp [firstL, err]
    rw [hE]
    simp only [Proofs.Tryz.f25]
    rw [enter_mkT (Nat.le_of_ble_eq_true rfl)]
    simp (maxSteps := 4000000) only [go_sem, ↓op_move, ↓op_assign, ↓op_pick, ↓op_alloc, ↓op_box, ↓op_build, ↓op_buildSlice, ↓op_load, ↓op_store, ↓op_nilCheck, ↓op_bin, ↓op_un, ↓op_convert, ↓op_makeFunc, ↓op_makeSlice, ↓op_slice, ↓op_fieldAddr, ↓op_field, ↓op_indexAddr, ↓op_index, ↓op_extract, ↓op_lookup, ↓op_mapUpdate, ↓op_makeMap, ↓op_range, ↓op_next, ↓op_call, ↓op_builtin, ↓g_tt, ↓g_ff, ↓g_tf, ↓g_ft, ↓g_tnt, ↓g_tnf, ↓g_fnt, ↓g_fnf, ↓mkT_getD, hp]
    refine RestT.loopF (β := Nat) [(4, 6), (12, 22)] (fun i => [(6, .int .i64 i)]) (fun _ => fun _ => none) (fun i => i ≤ I) (fun i => n - i) 0 (Nat.zero_le _) ?_ HpLe.none ?_
    · simp (maxSteps := 4000000) only [go_sem, ↓op_move, ↓op_assign, ↓op_pick, ↓op_alloc, ↓op_box, ↓op_build, ↓op_buildSlice, ↓op_load, ↓op_store, ↓op_nilCheck, ↓op_bin, ↓op_un, ↓op_convert, ↓op_makeFunc, ↓op_makeSlice, ↓op_slice, ↓op_fieldAddr, ↓op_field, ↓op_indexAddr, ↓op_index, ↓op_extract, ↓op_lookup, ↓op_mapUpdate, ↓op_makeMap, ↓op_range, ↓op_next, ↓op_call, ↓op_builtin, ↓g_tt, ↓g_ff, ↓g_tf, ↓g_ft, ↓g_tnt, ↓g_tnf, ↓g_fnt, ↓g_fnf, ↓mkT_getD]
      try exact rfl
    · intro ck i hck hi
      generalize hq0 : exC _ _ _ _ _ = gg
      have hd : decide ((i : Int) < (n : Int)) = true := decide_eq_true (by omega)
      by_cases e : i = I
      · have hd2 : decide (botE get i = h) = true := decide_eq_true (by rw [e]; exact hT)
        rw [← hq0]
        clear hq0
        simp (maxSteps := 4000000) only [go_sem, ↓op_move, ↓op_assign, ↓op_pick, ↓op_alloc, ↓op_box, ↓op_build, ↓op_buildSlice, ↓op_load, ↓op_store, ↓op_nilCheck, ↓op_bin, ↓op_un, ↓op_convert, ↓op_makeFunc, ↓op_makeSlice, ↓op_slice, ↓op_fieldAddr, ↓op_field, ↓op_indexAddr, ↓op_index, ↓op_extract, ↓op_lookup, ↓op_mapUpdate, ↓op_makeMap, ↓op_range, ↓op_next, ↓op_call, ↓op_builtin, ↓g_tt, ↓g_ff, ↓g_tf, ↓g_ft, ↓g_tnt, ↓g_tnf, ↓g_fnt, ↓g_fnf, ↓mkT_getD, hd, hp, hd2, Int.toNat_natCast]
        exact ⟨⟨hair, hok, by omega, by omega⟩, VEnt.refl _⟩
      · have hd2 : decide (botE get i = h) = false := decide_eq_false fun q => by
          have := bot_lt hok (show i < I by omega) (by omega)
          omega
        rw [← hq0]
        clear hq0
        simp (maxSteps := 4000000) only [go_sem, ↓op_move, ↓op_assign, ↓op_pick, ↓op_alloc, ↓op_box, ↓op_build, ↓op_buildSlice, ↓op_load, ↓op_store, ↓op_nilCheck, ↓op_bin, ↓op_un, ↓op_convert, ↓op_makeFunc, ↓op_makeSlice, ↓op_slice, ↓op_fieldAddr, ↓op_field, ↓op_indexAddr, ↓op_index, ↓op_extract, ↓op_lookup, ↓op_mapUpdate, ↓op_makeMap, ↓op_range, ↓op_next, ↓op_call, ↓op_builtin, ↓g_tt, ↓g_ff, ↓g_tf, ↓g_ft, ↓g_tnt, ↓g_tnf, ↓g_fnt, ↓g_fnf, ↓mkT_getD, hd, hp, hd2, Int.toNat_natCast]
        exact ⟨⟨hair, hok, by omega, by omega⟩, inK_of (by omega) (by omega), i + 1, by omega, by omega, by rw [Int.natCast_add]; rfl, HpLe.none⟩
  · have hno : ∀ i, i < n → decide (botE get i = h) = false := fun i hi => decide_eq_false fun q => hT (by have := twice_at hok hi q (by omega); rw [← hsI, this]; exact q)
    simp only [Proofs.Tryz.f25]
    rw [enter_mkT (Nat.le_of_ble_eq_true rfl)]
    simp (maxSteps := 4000000) only [go_sem, ↓op_move, ↓op_assign, ↓op_pick, ↓op_alloc, ↓op_box, ↓op_build, ↓op_buildSlice, ↓op_load, ↓op_store, ↓op_nilCheck, ↓op_bin, ↓op_un, ↓op_convert, ↓op_makeFunc, ↓op_makeSlice, ↓op_slice, ↓op_fieldAddr, ↓op_field, ↓op_indexAddr, ↓op_index, ↓op_extract, ↓op_lookup, ↓op_mapUpdate, ↓op_makeMap, ↓op_range, ↓op_next, ↓op_call, ↓op_builtin, ↓g_tt, ↓g_ff, ↓g_tf, ↓g_ft, ↓g_tnt, ↓g_tnf, ↓g_fnt, ↓g_fnf, ↓mkT_getD, hp]
    refine RestT.loopF (β := Nat) [(4, 6), (12, 22)] (fun i => [(6, .int .i64 i)]) (fun _ => fun _ => none) (fun i => i ≤ n) (fun i => n - i) 0 (Nat.zero_le _) ?_ HpLe.none ?_
    · simp (maxSteps := 4000000) only [go_sem, ↓op_move, ↓op_assign, ↓op_pick, ↓op_alloc, ↓op_box, ↓op_build, ↓op_buildSlice, ↓op_load, ↓op_store, ↓op_nilCheck, ↓op_bin, ↓op_un, ↓op_convert, ↓op_makeFunc, ↓op_makeSlice, ↓op_slice, ↓op_fieldAddr, ↓op_field, ↓op_indexAddr, ↓op_index, ↓op_extract, ↓op_lookup, ↓op_mapUpdate, ↓op_makeMap, ↓op_range, ↓op_next, ↓op_call, ↓op_builtin, ↓g_tt, ↓g_ff, ↓g_tf, ↓g_ft, ↓g_tnt, ↓g_tnf, ↓g_fnt, ↓g_fnf, ↓mkT_getD]
      try exact rfl
    · intro ck i hck hi
      generalize hq0 : exC _ _ _ _ _ = gg
      by_cases hlt : i < n
      · have hd : decide ((i : Int) < (n : Int)) = true := decide_eq_true (by omega)
        have hd2 := hno i hlt
        rw [← hq0]
        clear hq0
        simp (maxSteps := 4000000) only [go_sem, ↓op_move, ↓op_assign, ↓op_pick, ↓op_alloc, ↓op_box, ↓op_build, ↓op_buildSlice, ↓op_load, ↓op_store, ↓op_nilCheck, ↓op_bin, ↓op_un, ↓op_convert, ↓op_makeFunc, ↓op_makeSlice, ↓op_slice, ↓op_fieldAddr, ↓op_field, ↓op_indexAddr, ↓op_index, ↓op_extract, ↓op_lookup, ↓op_mapUpdate, ↓op_makeMap, ↓op_range, ↓op_next, ↓op_call, ↓op_builtin, ↓g_tt, ↓g_ff, ↓g_tf, ↓g_ft, ↓g_tnt, ↓g_tnf, ↓g_fnt, ↓g_fnf, ↓mkT_getD, hd, hp, hd2, Int.toNat_natCast]
        exact ⟨⟨hair, hok, by omega, by omega⟩, inK_of (by omega) (by omega), i + 1, hlt, by omega, by rw [Int.natCast_add]; rfl, HpLe.none⟩
      · have hd : decide ((i : Int) < (n : Int)) = false := decide_eq_false (by omega)
        by_cases h8 : (n : Int) = 8
        · have hd8 : decide ((n : Int) = 8) = true := decide_eq_true h8
          have hE : splE n get h = 5 := by
            unfold splE spl2
            rw [h1, hsI, decide_eq_false hT, hd8]
            simp [firstL, err]
          rw [← hq0]
          clear hq0
          rw [hE]
          simp (maxSteps := 4000000) only [go_sem, ↓op_move, ↓op_assign, ↓op_pick, ↓op_alloc, ↓op_box, ↓op_build, ↓op_buildSlice, ↓op_load, ↓op_store, ↓op_nilCheck, ↓op_bin, ↓op_un, ↓op_convert, ↓op_makeFunc, ↓op_makeSlice, ↓op_slice, ↓op_fieldAddr, ↓op_field, ↓op_indexAddr, ↓op_index, ↓op_extract, ↓op_lookup, ↓op_mapUpdate, ↓op_makeMap, ↓op_range, ↓op_next, ↓op_call, ↓op_builtin, ↓g_tt, ↓g_ff, ↓g_tf, ↓g_ft, ↓g_tnt, ↓g_tnf, ↓g_fnt, ↓g_fnf, ↓mkT_getD, hd, hp, hd8]
          exact VEnt.refl _
        · have hd8 : decide ((n : Int) = 8) = false := decide_eq_false h8
          have hE : splE n get h = if 2000 < splA n get h then 4 else 0 := by
            unfold splE spl2
            rw [h1, hsI, decide_eq_false hT, hd8]
            simp [firstL, err]
          rw [← hq0]
          clear hq0
          simp (maxSteps := 4000000) only [go_sem, ↓op_move, ↓op_assign, ↓op_pick, ↓op_alloc, ↓op_box, ↓op_build, ↓op_buildSlice, ↓op_load, ↓op_store, ↓op_nilCheck, ↓op_bin, ↓op_un, ↓op_convert, ↓op_makeFunc, ↓op_makeSlice, ↓op_slice, ↓op_fieldAddr, ↓op_field, ↓op_indexAddr, ↓op_index, ↓op_extract, ↓op_lookup, ↓op_mapUpdate, ↓op_makeMap, ↓op_range, ↓op_next, ↓op_call, ↓op_builtin, ↓g_tt, ↓g_ff, ↓g_tf, ↓g_ft, ↓g_tnt, ↓g_tnf, ↓g_fnt, ↓g_fnf, ↓mkT_getD, hd, hp, hd8, eI]
          refine ⟨⟨hair, hok, by omega, by omega⟩, ?_⟩
          have hsA : splA n get h = h - botE get I := by unfold splA; rw [hsI]
          have hti : ∀ i : Nat, ((i : Int)).toNat = i := Int.toNat_natCast
          obtain ⟨hgI, hivI⟩ := hair.2 I hI
          have hpI := hivI.pu
          refine RestT.ents (Ents.nilArr (d := 8) (l := (ck + 1 + 1 + 1 + 1 + 1, 1000)) 5 (fun _ => []) rfl rfl rfl) ?_
          simp only [go_sem, ↓op_move, ↓op_assign, ↓op_pick, ↓op_alloc, ↓op_box, ↓op_build, ↓op_buildSlice, ↓op_load, ↓op_store, ↓op_nilCheck, ↓op_bin, ↓op_un, ↓op_convert, ↓op_makeFunc, ↓op_makeSlice, ↓op_slice, ↓op_fieldAddr, ↓op_field, ↓op_indexAddr, ↓op_index, ↓op_extract, ↓op_lookup, ↓op_mapUpdate, ↓op_makeMap, ↓op_range, ↓op_next, ↓op_call, ↓op_builtin, ↓g_tt, ↓g_ff, ↓g_tf, ↓g_ft, ↓g_tnt, ↓g_tnf, ↓g_fnt, ↓g_fnf, ↓mkT_getD]
          have hdI : decide ((I : Int) < (n : Int)) = true := decide_eq_true (by omega)
          by_cases hL : 2000 < splA n get h
          · have hdL : decide (2000 < h - botE get I) = true := decide_eq_true (by rw [← hsA]; exact hL)
            rw [hE, if_pos hL]
            refine RestT.loopF (β := Nat) [(4, 5), (8, 11), (29, 81)] (fun i => [(8, .msl (ck + 1 + 1 + 1 + 1 + 1, 1000) 0 i), (9, .int .i64 i)]) (fun i => updH (fun _ => none) (ck + 1 + 1 + 1 + 1 + 1, 1000) (.arr i 5 get)) (fun i => i ≤ I) (fun i => n - i) 0 (Nat.zero_le _) ?_
              (HpLe.arr1 (updH_same _ _ _) rfl rfl fun i hi => by omega) ?_
            · simp (maxSteps := 4000000) only [go_sem, ↓op_move, ↓op_assign, ↓op_pick, ↓op_alloc, ↓op_box, ↓op_build, ↓op_buildSlice, ↓op_load, ↓op_store, ↓op_nilCheck, ↓op_bin, ↓op_un, ↓op_convert, ↓op_makeFunc, ↓op_makeSlice, ↓op_slice, ↓op_fieldAddr, ↓op_field, ↓op_indexAddr, ↓op_index, ↓op_extract, ↓op_lookup, ↓op_mapUpdate, ↓op_makeMap, ↓op_range, ↓op_next, ↓op_call, ↓op_builtin, ↓g_tt, ↓g_ff, ↓g_tf, ↓g_ft, ↓g_tnt, ↓g_tnf, ↓g_fnt, ↓g_fnf, ↓mkT_getD]
              try exact rfl
            · intro ck2 i hck2 hi
              generalize hq1 : exC _ _ _ _ _ = gg1
              have hd2 : decide ((i : Int) < (n : Int)) = true := decide_eq_true (by omega)
              by_cases e : i = I
              · subst e
                by_cases hlast : (i : Int) = (n : Int) - 1
                · have hl : decide ((i : Int) = (n : Int) - 1) = true := decide_eq_true hlast
                  rw [← hq1]
                  clear hq1
                  simp (maxSteps := 4000000) only [go_sem, ↓op_move, ↓op_assign, ↓op_pick, ↓op_alloc, ↓op_box, ↓op_build, ↓op_buildSlice, ↓op_load, ↓op_store, ↓op_nilCheck, ↓op_bin, ↓op_un, ↓op_convert, ↓op_makeFunc, ↓op_makeSlice, ↓op_slice, ↓op_fieldAddr, ↓op_field, ↓op_indexAddr, ↓op_index, ↓op_extract, ↓op_lookup, ↓op_mapUpdate, ↓op_makeMap, ↓op_range, ↓op_next, ↓op_call, ↓op_builtin, ↓g_tt, ↓g_ff, ↓g_tf, ↓g_ft, ↓g_tnt, ↓g_tnf, ↓g_fnt, ↓g_fnf, ↓mkT_getD, hd2, hp, hgI, hpI, hti, dec_self, hl, hdL]
                  exact ⟨⟨by omega, by omega⟩, ⟨by omega, by omega⟩, ⟨hair, hok, by omega, by omega⟩, inK_of (by omega) (by omega), ⟨by omega, by omega⟩, inK_of (by omega) (by omega), inK_of (by omega) (by omega), VEnt.refl _⟩
                · have hl : decide ((i : Int) = (n : Int) - 1) = false := decide_eq_false hlast
                  rw [← hq1]
                  clear hq1
                  simp (maxSteps := 4000000) only [go_sem, ↓op_move, ↓op_assign, ↓op_pick, ↓op_alloc, ↓op_box, ↓op_build, ↓op_buildSlice, ↓op_load, ↓op_store, ↓op_nilCheck, ↓op_bin, ↓op_un, ↓op_convert, ↓op_makeFunc, ↓op_makeSlice, ↓op_slice, ↓op_fieldAddr, ↓op_field, ↓op_indexAddr, ↓op_index, ↓op_extract, ↓op_lookup, ↓op_mapUpdate, ↓op_makeMap, ↓op_range, ↓op_next, ↓op_call, ↓op_builtin, ↓g_tt, ↓g_ff, ↓g_tf, ↓g_ft, ↓g_tnt, ↓g_tnf, ↓g_fnt, ↓g_fnf, ↓mkT_getD, hd2, hp, hgI, hpI, hti, dec_self, hl, hdL]
                  exact ⟨⟨by omega, by omega⟩, ⟨by omega, by omega⟩, ⟨hair, hok, by omega, by omega⟩, inK_of (by omega) (by omega), ⟨by omega, by omega⟩, inK_of (by omega) (by omega), inK_of (by omega) (by omega), VEnt.refl _⟩
              · have hde : decide ((i : Int) = (I : Int)) = false := decide_eq_false (by omega)
                obtain ⟨hg, hiv⟩ := hair.2 i (by omega)
                have hp2 := hiv.pu
                rw [← hq1]
                clear hq1
                simp (maxSteps := 4000000) only [go_sem, ↓op_move, ↓op_assign, ↓op_pick, ↓op_alloc, ↓op_box, ↓op_build, ↓op_buildSlice, ↓op_load, ↓op_store, ↓op_nilCheck, ↓op_bin, ↓op_un, ↓op_convert, ↓op_makeFunc, ↓op_makeSlice, ↓op_slice, ↓op_fieldAddr, ↓op_field, ↓op_indexAddr, ↓op_index, ↓op_extract, ↓op_lookup, ↓op_mapUpdate, ↓op_makeMap, ↓op_range, ↓op_next, ↓op_call, ↓op_builtin, ↓g_tt, ↓g_ff, ↓g_tf, ↓g_ft, ↓g_tnt, ↓g_tnf, ↓g_fnt, ↓g_fnf, ↓mkT_getD, hd2, hp, hg, hp2, hde]
                exact ⟨⟨by omega, by omega⟩, ⟨by omega, by omega, row_ok rfl (ones5 hp2)⟩, inK_of (by omega) (by omega), by omega, i + 1, by omega, by omega, ⟨rfl, by rw [Int.natCast_add]; rfl⟩, HpLe.arr1 (updH_same _ _ _) rfl rfl fun j hj => snoc (f := get) rfl hg hj⟩
          · have hdL : decide (2000 < h - botE get I) = false := decide_eq_false (by rw [← hsA]; exact hL)
            rw [hE, if_neg hL, if_neg (by decide), hsI]
            obtain ⟨ln, hln⟩ : ∃ ln : Nat → Nat, ln = fun i => if i ≤ I then i else i + 1 := ⟨_, rfl⟩
            have hl0 : ln 0 = 0 := by rw [hln]; exact if_pos (Nat.zero_le _)
            have hl1 : ∀ i, i < I → ln i = i ∧ ln (i + 1) = i + 1 := fun i hi => by rw [hln]; exact ⟨if_pos (by omega), if_pos (by omega)⟩
            have hl2 : ∀ i, I < i → ln i = i + 1 ∧ ln (i + 1) = i + 1 + 1 := fun i hi => by rw [hln]; exact ⟨if_neg (by omega), if_neg (by omega)⟩
            have hl3 : ln I = I ∧ ln (I + 1) = I + 2 := by rw [hln]; exact ⟨if_pos (Nat.le_refl _), if_neg (by omega)⟩
            have hlb : ∀ i, i ≤ n → ln i ≤ n + 1 := fun i hi => by rw [hln]; show (if i ≤ I then i else i + 1) ≤ n + 1; split <;> omega
            refine RestT.loopF (β := Nat) [(4, 5), (8, 11), (29, 81)] (fun i => [(8, .msl (ck + 1 + 1 + 1 + 1 + 1, 1000) 0 (ln i)), (9, .int .i64 i)]) (fun i => updH (fun _ => none) (ck + 1 + 1 + 1 + 1 + 1, 1000) (.arr (ln i) 5 (repG get (splV n get h) I))) (fun i => i ≤ n) (fun i => n - i) 0 (Nat.zero_le _) ?_
              (HpLe.arr1 (updH_same _ _ _) hl0.symm rfl fun i hi => by omega) ?_
            · simp (maxSteps := 4000000) only [go_sem, ↓op_move, ↓op_assign, ↓op_pick, ↓op_alloc, ↓op_box, ↓op_build, ↓op_buildSlice, ↓op_load, ↓op_store, ↓op_nilCheck, ↓op_bin, ↓op_un, ↓op_convert, ↓op_makeFunc, ↓op_makeSlice, ↓op_slice, ↓op_fieldAddr, ↓op_field, ↓op_indexAddr, ↓op_index, ↓op_extract, ↓op_lookup, ↓op_mapUpdate, ↓op_makeMap, ↓op_range, ↓op_next, ↓op_call, ↓op_builtin, ↓g_tt, ↓g_ff, ↓g_tf, ↓g_ft, ↓g_tnt, ↓g_tnf, ↓g_fnt, ↓g_fnf, ↓mkT_getD, hl0]
              try exact rfl
            · intro ck2 i hck2 hi
              generalize hq1 : exC _ _ _ _ _ = gg1
              by_cases hlt2 : i < n
              · have hd2 : decide ((i : Int) < (n : Int)) = true := decide_eq_true (by omega)
                by_cases e : i = I
                · subst e
                  have hli := hl3.1
                  have hln2 := hl3.2
                  by_cases hlast : (i : Int) = (n : Int) - 1
                  · have hl : decide ((i : Int) = (n : Int) - 1) = true := decide_eq_true hlast
                    rw [← hq1]
                    clear hq1
                    simp (maxSteps := 4000000) only [go_sem, ↓op_move, ↓op_assign, ↓op_pick, ↓op_alloc, ↓op_box, ↓op_build, ↓op_buildSlice, ↓op_load, ↓op_store, ↓op_nilCheck, ↓op_bin, ↓op_un, ↓op_convert, ↓op_makeFunc, ↓op_makeSlice, ↓op_slice, ↓op_fieldAddr, ↓op_field, ↓op_indexAddr, ↓op_index, ↓op_extract, ↓op_lookup, ↓op_mapUpdate, ↓op_makeMap, ↓op_range, ↓op_next, ↓op_call, ↓op_builtin, ↓g_tt, ↓g_ff, ↓g_tf, ↓g_ft, ↓g_tnt, ↓g_tnf, ↓g_fnt, ↓g_fnf, ↓mkT_getD, hd2, hp, hgI, hpI, hti, dec_self, hl, hdL, hli]
                    have hr0 : repG get (splV n get h) i i = [V.int .i64 (h - botE get i), V.int .i64 (cell get i 1), V.int .i64 (cell get i 2), V.int .i64 (cell get i 3), V.sl (inN get i 4) 2 (inG get i 4)] := by
                      unfold repG splV; rw [if_neg (by omega), if_pos rfl, if_pos rfl, hsA, hsI]
                    have hr1 : repG get (splV n get h) i (i + 1) = [V.int .i64 (1), V.int .i64 (cell get i 1), V.int .i64 (cell get i 2), V.int .i64 (cell get i 3), V.sl (inN get i 4) 2 (inG get i 4)] := by
                      unfold repG splV splB; rw [if_neg (by omega), if_neg (by omega), if_pos rfl, if_neg (by decide), hsI, if_neg (by omega)]
                    refine ⟨⟨by omega, by omega⟩, ⟨by omega, by omega⟩, ⟨hair, hok, by omega, by omega⟩, inK_of (by omega) (by omega), ⟨by omega, by omega⟩, inK_of (by omega) (by omega), inK_of (by omega) (by omega), ⟨by omega, by omega, fun k hk v hv => ?_⟩, inK_of (by omega) (by omega), by omega, i + 1, hlt2, by omega, ⟨by rw [hln2], by rw [Int.natCast_add]; rfl⟩, HpLe.arr1 (updH_same _ _ _) hln2.symm rfl fun j hj => ?_⟩
                    · rcases k with _ | _ | k
                      · exact ⟨.inl (ones5 hpI v hv).1, (ones5 hpI v hv).2⟩
                      · exact ⟨.inl (ones5 hpI v hv).1, (ones5 hpI v hv).2⟩
                      · omega
                    · by_cases q : j < i
                      · rw [if_pos q]
                      · rw [if_neg q]
                        have q2 : j = i ∨ j = i + 1 := by omega
                        rcases q2 with rfl | rfl
                        · rw [hr0, Nat.sub_self]; rfl
                        · rw [hr1, show i + 1 - i = 1 by omega]; rfl
                  · have hl : decide ((i : Int) = (n : Int) - 1) = false := decide_eq_false hlast
                    rw [← hq1]
                    clear hq1
                    simp (maxSteps := 4000000) only [go_sem, ↓op_move, ↓op_assign, ↓op_pick, ↓op_alloc, ↓op_box, ↓op_build, ↓op_buildSlice, ↓op_load, ↓op_store, ↓op_nilCheck, ↓op_bin, ↓op_un, ↓op_convert, ↓op_makeFunc, ↓op_makeSlice, ↓op_slice, ↓op_fieldAddr, ↓op_field, ↓op_indexAddr, ↓op_index, ↓op_extract, ↓op_lookup, ↓op_mapUpdate, ↓op_makeMap, ↓op_range, ↓op_next, ↓op_call, ↓op_builtin, ↓g_tt, ↓g_ff, ↓g_tf, ↓g_ft, ↓g_tnt, ↓g_tnf, ↓g_fnt, ↓g_fnf, ↓mkT_getD, hd2, hp, hgI, hpI, hti, dec_self, hl, hdL, hli]
                    have hr0 : repG get (splV n get h) i i = [V.int .i64 (h - botE get i), V.int .i64 (cell get i 1), V.int .i64 (cell get i 2), V.int .i64 (cell get i 3), V.sl (inN get i 4) 2 (inG get i 4)] := by
                      unfold repG splV; rw [if_neg (by omega), if_pos rfl, if_pos rfl, hsA, hsI]
                    have hr1 : repG get (splV n get h) i (i + 1) = [V.int .i64 (cell get i 0 - (h - botE get i)), V.int .i64 (cell get i 1), V.int .i64 (cell get i 2), V.int .i64 (cell get i 3), V.sl (inN get i 4) 2 (inG get i 4)] := by
                      unfold repG splV splB; rw [if_neg (by omega), if_neg (by omega), if_pos rfl, if_neg (by decide), hsI, if_pos (by omega)]
                      rw [hsA]
                    refine ⟨⟨by omega, by omega⟩, ⟨by omega, by omega⟩, ⟨hair, hok, by omega, by omega⟩, inK_of (by omega) (by omega), ⟨by omega, by omega⟩, inK_of (by omega) (by omega), inK_of (by omega) (by omega), ⟨by omega, by omega, fun k hk v hv => ?_⟩, inK_of (by omega) (by omega), by omega, i + 1, hlt2, by omega, ⟨by rw [hln2], by rw [Int.natCast_add]; rfl⟩, HpLe.arr1 (updH_same _ _ _) hln2.symm rfl fun j hj => ?_⟩
                    · rcases k with _ | _ | k
                      · exact ⟨.inl (ones5 hpI v hv).1, (ones5 hpI v hv).2⟩
                      · exact ⟨.inl (ones5 hpI v hv).1, (ones5 hpI v hv).2⟩
                      · omega
                    · by_cases q : j < i
                      · rw [if_pos q]
                      · rw [if_neg q]
                        have q2 : j = i ∨ j = i + 1 := by omega
                        rcases q2 with rfl | rfl
                        · rw [hr0, Nat.sub_self]; rfl
                        · rw [hr1, show i + 1 - i = 1 by omega]; rfl
                · have hde : decide ((i : Int) = (I : Int)) = false := decide_eq_false (by omega)
                  obtain ⟨hg, hiv⟩ := hair.2 i (by omega)
                  have hp2 := hiv.pu
                  rw [← hq1]
                  clear hq1
                  simp (maxSteps := 4000000) only [go_sem, ↓op_move, ↓op_assign, ↓op_pick, ↓op_alloc, ↓op_box, ↓op_build, ↓op_buildSlice, ↓op_load, ↓op_store, ↓op_nilCheck, ↓op_bin, ↓op_un, ↓op_convert, ↓op_makeFunc, ↓op_makeSlice, ↓op_slice, ↓op_fieldAddr, ↓op_field, ↓op_indexAddr, ↓op_index, ↓op_extract, ↓op_lookup, ↓op_mapUpdate, ↓op_makeMap, ↓op_range, ↓op_next, ↓op_call, ↓op_builtin, ↓g_tt, ↓g_ff, ↓g_tf, ↓g_ft, ↓g_tnt, ↓g_tnf, ↓g_fnt, ↓g_fnf, ↓mkT_getD, hd2, hp, hg, hp2, hde]
                  have hrow : repG get (splV n get h) I (ln i) = [V.int .i64 (cell get i 0), V.int .i64 (cell get i 1), V.int .i64 (cell get i 2), V.int .i64 (cell get i 3), V.sl (inN get i 4) 2 (inG get i 4)] := by
                    rw [← hg]
                    rcases Nat.lt_or_gt_of_ne e with q | q
                    · rw [(hl1 i q).1]; exact if_pos q
                    · rw [(hl2 i q).1]
                      unfold repG
                      rw [if_neg (by omega), if_neg (by omega), if_neg (by omega), Nat.add_sub_cancel]
                  have hnn : ln i + 1 = ln (i + 1) := by
                    rcases Nat.lt_or_gt_of_ne e with q | q
                    · rw [(hl1 i q).1, (hl1 i q).2]
                    · rw [(hl2 i q).1, (hl2 i q).2]
                  have hlbi := hlb i hi
                  exact ⟨⟨by omega, by omega⟩, ⟨by omega, by omega, row_ok rfl (ones5 hp2)⟩, inK_of (by omega) (by omega), by omega, i + 1, hlt2, by omega, ⟨by rw [hnn], by rw [Int.natCast_add]; rfl⟩, HpLe.arr1 (updH_same _ _ _) hnn rfl fun j hj => snoc (f := repG get (splV n get h) I) rfl hrow hj⟩
              · have hd2 : decide ((i : Int) < (n : Int)) = false := decide_eq_false (by omega)
                obtain rfl : i = n := by omega
                have hlN : ln i = i + 1 := (hl2 i hI).1
                rw [← hq1]
                clear hq1
                simp (maxSteps := 4000000) only [go_sem, ↓op_move, ↓op_assign, ↓op_pick, ↓op_alloc, ↓op_box, ↓op_build, ↓op_buildSlice, ↓op_load, ↓op_store, ↓op_nilCheck, ↓op_bin, ↓op_un, ↓op_convert, ↓op_makeFunc, ↓op_makeSlice, ↓op_slice, ↓op_fieldAddr, ↓op_field, ↓op_indexAddr, ↓op_index, ↓op_extract, ↓op_lookup, ↓op_mapUpdate, ↓op_makeMap, ↓op_range, ↓op_next, ↓op_call, ↓op_builtin, ↓g_tt, ↓g_ff, ↓g_tf, ↓g_ft, ↓g_tnt, ↓g_tnf, ↓g_fnt, ↓g_fnf, ↓mkT_getD, hd2, hp, hlN, Nat.zero_add]
                have hv : IsAir 2 (splV i get h) := ⟨by omega, fun k hk => ⟨rfl, by show IsIv (inN get (splI i get h) 4) (inG get (splI i get h) 4); rw [hsI]; exact hivI⟩⟩
                exact VEnt.tup ⟨VEnt.sl fun j hj => frzRow_sl (isAir_rep hair hv (by omega) hI).pu hj, VEnt.refl _, trivial⟩
end Go.Fly.Tryz
end
section
/- The law on layers. -/
set_option maxRecDepth 100000
set_option maxHeartbeats 8000000
namespace Go.Fly.Tryz
open Go

theorem wLayers_ok : Holds Proofs.Tryz.prog G0 3 airHeightC := by
  refine Holds.of_exC D3 Proofs.Tryz.func3 rfl foll (by kernel_rfl) (tab [(15, awakeC), (16, shortAirC), (17, airC), (18, lat3C), (19, ownAirC), (20, splitC), (21, rev3C), (22, firstC), (23, withinC), (24, latRC), (25, splRC), (26, revRC), (27, airC), (28, laysC)]) (tab_ok ⟨lAwake_ok, rAirShort_ok, rAir_ok, gLat_ok, lOwn_ok, gSplit_ok, gRev_ok, qFirst_ok, qRange_ok, rLat_ok, rSpl_ok, rRev_ok, aAir_ok, lLays_ok, trivial⟩) G0_ok fun k0 rl args hpu hpre => ?_
  unfold airHeightC at hpre ⊢
  split at hpre
  rotate_left
  · exact hpre.elim
  rename_i n sz get h
  obtain ⟨rfl, hair⟩ := hpre
  have hp := hair.pu
  have hn := hair.1
  cases hsh : shortAirB n get
  · simp only [Proofs.Tryz.f3]
    rw [enter_mkT (Nat.le_of_ble_eq_true rfl)]
    simp (maxSteps := 4000000) only [go_sem, ↓op_move, ↓op_assign, ↓op_pick, ↓op_alloc, ↓op_box, ↓op_build, ↓op_buildSlice, ↓op_load, ↓op_store, ↓op_nilCheck, ↓op_bin, ↓op_un, ↓op_convert, ↓op_makeFunc, ↓op_makeSlice, ↓op_slice, ↓op_fieldAddr, ↓op_field, ↓op_indexAddr, ↓op_index, ↓op_extract, ↓op_lookup, ↓op_mapUpdate, ↓op_makeMap, ↓op_range, ↓op_next, ↓op_call, ↓op_builtin, ↓g_tt, ↓g_ff, ↓g_tf, ↓g_ft, ↓g_tnt, ↓g_tnf, ↓g_fnt, ↓g_fnf, ↓mkT_getD, hp, hsh]
    exact ⟨hair, VEnt.refl _⟩
  · obtain ⟨hn9, hb9⟩ := short_use hsh
    have hown : IsAir n get ∧ n ≤ 1000 ∧ ∀ i, i < n → inN get i 4 ≤ 1000 := ⟨hair, by omega, fun i hi => by have := hb9 i hi; omega⟩
    have hle : firstL [airE n get, rng h 0 10000] = latE n get h := rfl
    have hse : firstL [airE n get, rng h 1 10000] = spl1 n get h := rfl
    have hpr := (isAir_rev hair).pu
    by_cases h0 : airE n get = 0
    · have d0 : decide (airE n get = 0) = true := decide_eq_true h0
      have o0 := orE_noA h0
      have hok := airE_ok h0
      by_cases h1 : latE n get h = 0
      · have d1 : decide (latE n get h = 0) = true := decide_eq_true h1
        have d1' : decide ((0 : Int) = latE n get h) = true := decide_eq_true h1.symm
        have o1 := orE_noA h1
        have hrg := rng_zero.1 (firstL_zero.1 h1 (rng h 0 10000) (by simp))
        by_cases h2 : spl1 n get h = 0
        · have d2 : decide (spl1 n get h = 0) = true := decide_eq_true h2
          by_cases h3 : splE n get h = 0
          · have oS : ∀ A B : V, (if splE n get h ≠ 0 then A else B) = B := fun A B => if_neg (by simp [h3])
            simp only [Proofs.Tryz.f3]
            rw [enter_mkT (Nat.le_of_ble_eq_true rfl)]
            simp (maxSteps := 4000000) only [go_sem, ↓op_move, ↓op_assign, ↓op_pick, ↓op_alloc, ↓op_box, ↓op_build, ↓op_buildSlice, ↓op_load, ↓op_store, ↓op_nilCheck, ↓op_bin, ↓op_un, ↓op_convert, ↓op_makeFunc, ↓op_makeSlice, ↓op_slice, ↓op_fieldAddr, ↓op_field, ↓op_indexAddr, ↓op_index, ↓op_extract, ↓op_lookup, ↓op_mapUpdate, ↓op_makeMap, ↓op_range, ↓op_next, ↓op_call, ↓op_builtin, ↓g_tt, ↓g_ff, ↓g_tf, ↓g_ft, ↓g_tnt, ↓g_tnf, ↓g_fnt, ↓g_fnf, ↓mkT_getD, hp, hsh, hle, hse, o0, o1, d0, d1, d1', d2, oS, dec_self, hpr]
            have hsI : ∃ I : Nat, I < n ∧ splI n get h = I := by
              obtain ⟨I, hI, eI⟩ := atE_ok hok (h := h) (by omega)
              exact ⟨I, hI, by unfold splI; rw [eI]; exact Int.toNat_natCast I⟩
            obtain ⟨I, hI, eI⟩ := hsI
            have hv : IsAir 2 (splV n get h) := ⟨by omega, fun k hk => ⟨rfl, by show IsIv (inN get (splI n get h) 4) (inG get (splI n get h) 4); rw [eI]; exact (hair.2 I hI).2⟩⟩
            have hR : IsAir (n + 1) (repG get (splV n get h) (splI n get h)) := by rw [eI]; exact isAir_rep hair hv (by omega) hI
            have pu := hR.pu
            exact ⟨hair, hair, hown, hair, hown, ⟨⟨hair, by omega⟩, pu⟩, hown, hair, ⟨hair, hok, by omega, by omega⟩, ⟨⟨hair, h2⟩, pu⟩, ⟨hair, h0⟩, hown, hair, lays_ok hR (by omega), by rw [h0]; exact lays_ok (isAir_rev hair) (by omega), VEnt.refl _⟩
          · have oS : ∀ A B : V, (if splE n get h ≠ 0 then A else B) = A := fun A B => if_pos h3
            have dS : decide (splE n get h = 0) = false := decide_eq_false h3
            simp only [Proofs.Tryz.f3]
            rw [enter_mkT (Nat.le_of_ble_eq_true rfl)]
            simp (maxSteps := 4000000) only [go_sem, ↓op_move, ↓op_assign, ↓op_pick, ↓op_alloc, ↓op_box, ↓op_build, ↓op_buildSlice, ↓op_load, ↓op_store, ↓op_nilCheck, ↓op_bin, ↓op_un, ↓op_convert, ↓op_makeFunc, ↓op_makeSlice, ↓op_slice, ↓op_fieldAddr, ↓op_field, ↓op_indexAddr, ↓op_index, ↓op_extract, ↓op_lookup, ↓op_mapUpdate, ↓op_makeMap, ↓op_range, ↓op_next, ↓op_call, ↓op_builtin, ↓g_tt, ↓g_ff, ↓g_tf, ↓g_ft, ↓g_tnt, ↓g_tnf, ↓g_fnt, ↓g_fnf, ↓mkT_getD, hp, hsh, hle, hse, o0, o1, d0, d1, d1', d2, oS, dS, dec_self, hpr]
            exact ⟨hair, hair, hown, hair, hown, ⟨hair, by omega⟩, hown, hair, ⟨hair, hok, by omega, by omega⟩, ⟨hair, h2⟩, ⟨hair, h0⟩, hown, hair, lays_err h3 .nils, by rw [h0]; exact lays_ok (isAir_rev hair) (by omega), VEnt.refl _⟩
        · have d2 : decide (spl1 n get h = 0) = false := decide_eq_false h2
          have h3 : splE n get h = spl1 n get h := by unfold splE; rw [if_pos h2]
          have oS : ∀ A B : V, (if splE n get h ≠ 0 then A else B) = A := fun A B => if_pos (by rw [h3]; exact h2)
          have dS : decide (splE n get h = 0) = false := decide_eq_false (by rw [h3]; exact h2)
          simp only [Proofs.Tryz.f3]
          rw [enter_mkT (Nat.le_of_ble_eq_true rfl)]
          simp (maxSteps := 4000000) only [go_sem, ↓op_move, ↓op_assign, ↓op_pick, ↓op_alloc, ↓op_box, ↓op_build, ↓op_buildSlice, ↓op_load, ↓op_store, ↓op_nilCheck, ↓op_bin, ↓op_un, ↓op_convert, ↓op_makeFunc, ↓op_makeSlice, ↓op_slice, ↓op_fieldAddr, ↓op_field, ↓op_indexAddr, ↓op_index, ↓op_extract, ↓op_lookup, ↓op_mapUpdate, ↓op_makeMap, ↓op_range, ↓op_next, ↓op_call, ↓op_builtin, ↓g_tt, ↓g_ff, ↓g_tf, ↓g_ft, ↓g_tnt, ↓g_tnf, ↓g_fnt, ↓g_fnf, ↓mkT_getD, hp, hsh, hle, hse, o0, o1, d0, d1, d1', d2, oS, dS, dec_self, hpr]
          exact ⟨hair, hair, hown, hair, hown, ⟨hair, by omega⟩, hown, hair, ⟨hair, hok, by omega, by omega⟩, ⟨hair, h0⟩, hown, hair, by rw [h3]; exact lays_err h2 .nils, by rw [h0]; exact lays_ok (isAir_rev hair) (by omega), VEnt.refl _⟩
      · have d1 : decide (latE n get h = 0) = false := decide_eq_false h1
        have o1 := orE_errA h1
        have h2 : ¬ spl1 n get h = 0 := fun q => h1 (firstL_zero.2 fun z hz => by
          have hq := rng_zero.1 (firstL_zero.1 q (rng h 1 10000) (by simp))
          simp only [List.mem_cons, List.not_mem_nil, or_false] at hz
          rcases hz with rfl | rfl
          · exact h0
          · exact rng_zero.2 ⟨by omega, hq.2⟩)
        have d2 : decide (spl1 n get h = 0) = false := decide_eq_false h2
        have h3 : splE n get h = spl1 n get h := by unfold splE; rw [if_pos h2]
        have oS : ∀ A B : V, (if splE n get h ≠ 0 then A else B) = A := fun A B => if_pos (by rw [h3]; exact h2)
        have dS : decide (splE n get h = 0) = false := decide_eq_false (by rw [h3]; exact h2)
        simp only [Proofs.Tryz.f3]
        rw [enter_mkT (Nat.le_of_ble_eq_true rfl)]
        simp (maxSteps := 4000000) only [go_sem, ↓op_move, ↓op_assign, ↓op_pick, ↓op_alloc, ↓op_box, ↓op_build, ↓op_buildSlice, ↓op_load, ↓op_store, ↓op_nilCheck, ↓op_bin, ↓op_un, ↓op_convert, ↓op_makeFunc, ↓op_makeSlice, ↓op_slice, ↓op_fieldAddr, ↓op_field, ↓op_indexAddr, ↓op_index, ↓op_extract, ↓op_lookup, ↓op_mapUpdate, ↓op_makeMap, ↓op_range, ↓op_next, ↓op_call, ↓op_builtin, ↓g_tt, ↓g_ff, ↓g_tf, ↓g_ft, ↓g_tnt, ↓g_tnf, ↓g_fnt, ↓g_fnf, ↓mkT_getD, hp, hsh, hle, hse, o0, o1, d0, d1, d2, oS, dS, dec_self, hpr]
        exact ⟨hair, hair, hown, hair, hown, ⟨hair, by omega⟩, hown, hair, ⟨hair, h0⟩, hown, hair, by rw [h3]; exact lays_err h2 .nils, by rw [h0]; exact lays_ok (isAir_rev hair) (by omega), VEnt.refl _⟩
    · have d0 : decide (airE n get = 0) = false := decide_eq_false h0
      have o0 := orE_errA h0
      have h1 : ¬ latE n get h = 0 := fun q => h0 (firstL_zero.1 q _ (by simp))
      have d1 : decide (latE n get h = 0) = false := decide_eq_false h1
      have o1 := orE_errA h1
      have h2 : ¬ spl1 n get h = 0 := fun q => h0 (firstL_zero.1 q _ (by simp))
      have d2 : decide (spl1 n get h = 0) = false := decide_eq_false h2
      have h3 : splE n get h = spl1 n get h := by unfold splE; rw [if_pos h2]
      have oS : ∀ A B : V, (if splE n get h ≠ 0 then A else B) = A := fun A B => if_pos (by rw [h3]; exact h2)
      have dS : decide (splE n get h = 0) = false := decide_eq_false (by rw [h3]; exact h2)
      simp only [Proofs.Tryz.f3]
      rw [enter_mkT (Nat.le_of_ble_eq_true rfl)]
      simp (maxSteps := 4000000) only [go_sem, ↓op_move, ↓op_assign, ↓op_pick, ↓op_alloc, ↓op_box, ↓op_build, ↓op_buildSlice, ↓op_load, ↓op_store, ↓op_nilCheck, ↓op_bin, ↓op_un, ↓op_convert, ↓op_makeFunc, ↓op_makeSlice, ↓op_slice, ↓op_fieldAddr, ↓op_field, ↓op_indexAddr, ↓op_index, ↓op_extract, ↓op_lookup, ↓op_mapUpdate, ↓op_makeMap, ↓op_range, ↓op_next, ↓op_call, ↓op_builtin, ↓g_tt, ↓g_ff, ↓g_tf, ↓g_ft, ↓g_tnt, ↓g_tnf, ↓g_fnt, ↓g_fnf, ↓mkT_getD, hp, hsh, hle, hse, o0, o1, d0, d1, d2, oS, dS, dec_self, hpr]
      exact ⟨hair, hair, hown, hair, hown, ⟨hair, by omega⟩, hown, hair, hown, hair, by rw [h3]; exact lays_err h2 .nils, lays_err h0 .nils, VEnt.refl _⟩
end Go.Fly.Tryz
end
