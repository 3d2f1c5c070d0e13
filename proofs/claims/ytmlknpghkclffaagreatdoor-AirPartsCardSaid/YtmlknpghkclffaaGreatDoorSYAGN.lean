/- Part of a proof: an evaluator of the model's code by abstract values, and plain laws for it. No conditions. -/
import Derived.Test.YtmlknpghkclffaaGreatDoorSYAGH
import Derived.Test.YtmlknpghkclffaaGreatDoorSYAGL
import Derived.Test.YtmlknpghkclffaaGreatDoorSYAGK
import Derived.Test.YtmlknpghkclffaaGreatDoorSYAGG
import Derived.Test.YtmlknpghkclffaaGreatDoorSYAGD
import Derived.Test.YtmlknpghkclffaaGreatDoorAU
import Derived.Test.YtmlknpghkclffaaGreatDoorAV
set_option linter.unusedSimpArgs false
set_option linter.unusedVariables false
section
/- Layers by rank, at any input. -/
set_option maxRecDepth 100000
set_option maxHeartbeats 2000000
namespace Go.Fly.Tryz
open Go

theorem gRanked_ok : Holds Proofs.Tryz.prog G0 50 rank3C := by
  refine Holds.of_exC D50 Proofs.Tryz.func50 rfl foll (by kernel_rfl) (tab [(27, airC), (83, firstC), (119, alongC), (122, rankC), (iceKey 2, iceC), (iceKey 3, iceC), (inlKey 30, iceC)]) (tab_ok ⟨aAir_ok, aFirst_ok, gAlong_ok, gRank1_ok, ice_holds, ice_holds, ice_holds, trivial⟩) G0_ok fun k0 rl args hpu hpre => ?_
  unfold rank3C at hpre ⊢
  split at hpre
  rotate_left
  · exact hpre.elim
  rename_i n sz get x y
  obtain ⟨rfl, hair⟩ := hpre
  have hpu := hair.pu
  by_cases he : rkE n get x y = 0
  · have hz := firstL_zero.1 he
    have h1 : airE n get = 0 := hz _ (by simp)
    have hal := alongE_zero (hz (alongE x y) (by simp))
    have hok := airE_ok h1
    have hcnt := hok.cnt
    have hd : decide (firstL [airE n get, alongE x y] = 0) = true := decide_eq_true he
    simp only [Proofs.Tryz.f50]
    rw [enter_mkT (Nat.le_of_ble_eq_true rfl)]
    simp (maxSteps := 4000000) only [go_sem, ↓op_move, ↓op_assign, ↓op_pick, ↓op_alloc, ↓op_box, ↓op_build, ↓op_buildSlice, ↓op_load, ↓op_store, ↓op_nilCheck, ↓op_bin, ↓op_un, ↓op_convert, ↓op_makeFunc, ↓op_makeSlice, ↓op_slice, ↓op_fieldAddr, ↓op_field, ↓op_indexAddr, ↓op_index, ↓op_extract, ↓op_lookup, ↓op_mapUpdate, ↓op_makeMap, ↓op_range, ↓op_next, ↓op_call, ↓op_builtin, ↓g_tt, ↓g_ff, ↓g_tf, ↓g_ft, ↓g_tnt, ↓g_tnf, ↓g_fnt, ↓g_fnf, ↓mkT_getD, hpu, hd]
    rw [orE_no he]
    refine ⟨hair, ?_⟩
    refine RestT.ents (Ents.nilArr (d := 7) (l := (6, 1000)) 1 (fun i => [.int .i64 (i : Int)]) rfl rfl rfl) ?_
    simp (maxSteps := 4000000) only [go_sem, ↓op_move, ↓op_assign, ↓op_pick, ↓op_alloc, ↓op_box, ↓op_build, ↓op_buildSlice, ↓op_load, ↓op_store, ↓op_nilCheck, ↓op_bin, ↓op_un, ↓op_convert, ↓op_makeFunc, ↓op_makeSlice, ↓op_slice, ↓op_fieldAddr, ↓op_field, ↓op_indexAddr, ↓op_index, ↓op_extract, ↓op_lookup, ↓op_mapUpdate, ↓op_makeMap, ↓op_range, ↓op_next, ↓op_call, ↓op_builtin, ↓g_tt, ↓g_ff, ↓g_tf, ↓g_ft, ↓g_tnt, ↓g_tnf, ↓g_fnt, ↓g_fnf, ↓mkT_getD]
    refine RestT.loopF (β := Nat) [(7, 8), (20, 27)] (fun i => [(7, .msl (6, 1000) 0 i), (20, .int .i64 i)]) (fun i => updH (fun _ => none) (6, 1000) (.arr i 1 (fun i => [.int .i64 (i : Int)]))) (fun i => i ≤ n) (fun i => n - i) 0 (Nat.zero_le _) ?_
      (HpLe.arr1 (updH_same _ _ _) rfl rfl fun i hi => by omega) ?_
    · simp (maxSteps := 4000000) only [go_sem, ↓op_move, ↓op_assign, ↓op_pick, ↓op_alloc, ↓op_box, ↓op_build, ↓op_buildSlice, ↓op_load, ↓op_store, ↓op_nilCheck, ↓op_bin, ↓op_un, ↓op_convert, ↓op_makeFunc, ↓op_makeSlice, ↓op_slice, ↓op_fieldAddr, ↓op_field, ↓op_indexAddr, ↓op_index, ↓op_extract, ↓op_lookup, ↓op_mapUpdate, ↓op_makeMap, ↓op_range, ↓op_next, ↓op_call, ↓op_builtin, ↓g_tt, ↓g_ff, ↓g_tf, ↓g_ft, ↓g_tnt, ↓g_tnf, ↓g_fnt, ↓g_fnf, ↓mkT_getD]
      try exact ⟨rfl, rfl⟩
    · intro ck i hck hi
      generalize hq0 : exC _ _ _ _ _ = gg
      by_cases hlt : i < n
      · have hdd : decide ((i : Int) < (n : Int)) = true := by simp; omega
        rw [← hq0]
        clear hq0
        simp (maxSteps := 4000000) only [go_sem, ↓op_move, ↓op_assign, ↓op_pick, ↓op_alloc, ↓op_box, ↓op_build, ↓op_buildSlice, ↓op_load, ↓op_store, ↓op_nilCheck, ↓op_bin, ↓op_un, ↓op_convert, ↓op_makeFunc, ↓op_makeSlice, ↓op_slice, ↓op_fieldAddr, ↓op_field, ↓op_indexAddr, ↓op_index, ↓op_extract, ↓op_lookup, ↓op_mapUpdate, ↓op_makeMap, ↓op_range, ↓op_next, ↓op_call, ↓op_builtin, ↓g_tt, ↓g_ff, ↓g_tf, ↓g_ft, ↓g_tnt, ↓g_tnf, ↓g_fnt, ↓g_fnf, ↓mkT_getD, hdd, hpu]
        exact ⟨⟨by omega, by omega, row_ok rfl ones1⟩, inK_of (by omega) (by omega), by omega, i + 1, hlt, by omega, ⟨rfl, rfl⟩, HpLe.arr1 (updH_same _ _ _) rfl rfl fun j hj => snoc (f := fun i => [V.int .i64 (i : Int)]) rfl rfl hj⟩
      · have hdd : decide ((i : Int) < (n : Int)) = false := by simp; omega
        obtain rfl : i = n := by omega
        rw [← hq0]
        clear hq0
        simp (maxSteps := 4000000) only [go_sem, ↓op_move, ↓op_assign, ↓op_pick, ↓op_alloc, ↓op_box, ↓op_build, ↓op_buildSlice, ↓op_load, ↓op_store, ↓op_nilCheck, ↓op_bin, ↓op_un, ↓op_convert, ↓op_makeFunc, ↓op_makeSlice, ↓op_slice, ↓op_fieldAddr, ↓op_field, ↓op_indexAddr, ↓op_index, ↓op_extract, ↓op_lookup, ↓op_mapUpdate, ↓op_makeMap, ↓op_range, ↓op_next, ↓op_call, ↓op_builtin, ↓g_tt, ↓g_ff, ↓g_tf, ↓g_ft, ↓g_tnt, ↓g_tnf, ↓g_fnt, ↓g_fnf, ↓mkT_getD, hdd, hpu]
        refine .inl fun hX => sortIn hX hair h1 hal.1 hal.2 (g0 := fun i => (i : Int)) (fun j hj => ⟨by show (0 : Int) ≤ (j : Int); omega, by show (j : Int) < _; omega⟩) (updH_same _ _ _) (by show 6 ≤ ck + 1 + 1; omega) (fun l' hl' => by rw [updH_ne (by rintro rfl; simp at hl'; omega)]) fun v hp' ck2 h => ?_
        simp only [h.1, Nat.zero_add, if_true]
        exact VEnt.tup ⟨VEnt.sl fun j hj => frzRow_pu fun v hv => (ones1 v hv).1, VEnt.refl _, trivial⟩
  · have hd : decide (firstL [airE n get, alongE x y] = 0) = false := decide_eq_false he
    simp only [Proofs.Tryz.f50]
    rw [enter_mkT (Nat.le_of_ble_eq_true rfl)]
    simp (maxSteps := 4000000) only [go_sem, ↓op_move, ↓op_assign, ↓op_pick, ↓op_alloc, ↓op_box, ↓op_build, ↓op_buildSlice, ↓op_load, ↓op_store, ↓op_nilCheck, ↓op_bin, ↓op_un, ↓op_convert, ↓op_makeFunc, ↓op_makeSlice, ↓op_slice, ↓op_fieldAddr, ↓op_field, ↓op_indexAddr, ↓op_index, ↓op_extract, ↓op_lookup, ↓op_mapUpdate, ↓op_makeMap, ↓op_range, ↓op_next, ↓op_call, ↓op_builtin, ↓g_tt, ↓g_ff, ↓g_tf, ↓g_ft, ↓g_tnt, ↓g_tnf, ↓g_fnt, ↓g_fnf, ↓mkT_getD, hpu, hd]
    rw [orE_err he]
    exact ⟨hair, VEnt.refl _⟩
end Go.Fly.Tryz
end
section
/- What the law's fixed examples need. -/
set_option maxRecDepth 100000
set_option maxHeartbeats 2000000
namespace Go.Fly.Tryz
open Go

theorem lOf_ok : Holds Proofs.Tryz.prog G0 66 ofIvC := by
  refine Holds.of_exC D66 Proofs.Tryz.func66 rfl foll (by kernel_rfl) (tab []) (tab_ok trivial) G0_ok fun k0 rl args hpu hpre => ?_
  unfold ofIvC at hpre ⊢
  split at hpre
  rotate_left
  · exact hpre.elim
  simp only [Proofs.Tryz.f66]
  rw [enter_mkT (Nat.le_of_ble_eq_true rfl)]
  simp (maxSteps := 4000000) only [go_sem, ↓op_move, ↓op_assign, ↓op_pick, ↓op_alloc, ↓op_box, ↓op_build, ↓op_buildSlice, ↓op_load, ↓op_store, ↓op_nilCheck, ↓op_bin, ↓op_un, ↓op_convert, ↓op_makeFunc, ↓op_makeSlice, ↓op_slice, ↓op_fieldAddr, ↓op_field, ↓op_indexAddr, ↓op_index, ↓op_extract, ↓op_lookup, ↓op_mapUpdate, ↓op_makeMap, ↓op_range, ↓op_next, ↓op_call, ↓op_builtin, ↓g_tt, ↓g_ff, ↓g_tf, ↓g_ft, ↓g_tnt, ↓g_tnf, ↓g_fnt, ↓g_fnf, ↓mkT_getD]
  exact VEnt.refl _

theorem lAt_ok : Holds Proofs.Tryz.prog G0 79 vecC := by
  refine Holds.of_exC D79 Proofs.Tryz.func79 rfl foll (by kernel_rfl) (tab []) (tab_ok trivial) G0_ok fun k0 rl args hpu hpre => ?_
  unfold vecC at hpre ⊢
  split at hpre
  rotate_left
  · exact hpre.elim
  simp only [Proofs.Tryz.f79]
  rw [enter_mkT (Nat.le_of_ble_eq_true rfl)]
  simp (maxSteps := 4000000) only [go_sem, ↓op_move, ↓op_assign, ↓op_pick, ↓op_alloc, ↓op_box, ↓op_build, ↓op_buildSlice, ↓op_load, ↓op_store, ↓op_nilCheck, ↓op_bin, ↓op_un, ↓op_convert, ↓op_makeFunc, ↓op_makeSlice, ↓op_slice, ↓op_fieldAddr, ↓op_field, ↓op_indexAddr, ↓op_index, ↓op_extract, ↓op_lookup, ↓op_mapUpdate, ↓op_makeMap, ↓op_range, ↓op_next, ↓op_call, ↓op_builtin, ↓g_tt, ↓g_ff, ↓g_tf, ↓g_ft, ↓g_tnt, ↓g_tnf, ↓g_fnt, ↓g_fnf, ↓mkT_getD]
  exact VEnt.refl _

theorem lTo_ok : Holds Proofs.Tryz.prog G0 78 toPathC := by
  refine Holds.of_exC D78 Proofs.Tryz.func78 rfl foll (by kernel_rfl) (tab [(iceKey 2, iceC), (iceKey 3, iceC)]) (tab_ok ⟨ice_holds, ice_holds, trivial⟩) G0_ok fun k0 rl args hpu hpre => ?_
  unfold toPathC at hpre ⊢
  split at hpre
  rotate_left
  · exact hpre.elim
  simp only [Proofs.Tryz.f78]
  rw [enter_mkT (Nat.le_of_ble_eq_true rfl)]
  simp (maxSteps := 4000000) only [go_sem, ↓op_move, ↓op_assign, ↓op_pick, ↓op_alloc, ↓op_box, ↓op_build, ↓op_buildSlice, ↓op_load, ↓op_store, ↓op_nilCheck, ↓op_bin, ↓op_un, ↓op_convert, ↓op_makeFunc, ↓op_makeSlice, ↓op_slice, ↓op_fieldAddr, ↓op_field, ↓op_indexAddr, ↓op_index, ↓op_extract, ↓op_lookup, ↓op_mapUpdate, ↓op_makeMap, ↓op_range, ↓op_next, ↓op_call, ↓op_builtin, ↓g_tt, ↓g_ff, ↓g_tf, ↓g_ft, ↓g_tnt, ↓g_tnf, ↓g_fnt, ↓g_fnf, ↓mkT_getD]
  exact VEnt.refl _

theorem lTwo_ok : Holds Proofs.Tryz.prog G0 77 twoC := by
  refine Holds.of_exC D77 Proofs.Tryz.func77 rfl foll (by kernel_rfl) (tab [(66, ofIvC), (iceKey 2, iceC), (iceKey 6, iceC)]) (tab_ok ⟨lOf_ok, ice_holds, ice_holds, trivial⟩) G0_ok fun k0 rl args hpu hpre => ?_
  unfold twoC at hpre ⊢
  split at hpre
  rotate_left
  · exact hpre.elim
  simp only [Proofs.Tryz.f77]
  rw [enter_mkT (Nat.le_of_ble_eq_true rfl)]
  simp (maxSteps := 4000000) only [go_sem, ↓op_move, ↓op_assign, ↓op_pick, ↓op_alloc, ↓op_box, ↓op_build, ↓op_buildSlice, ↓op_load, ↓op_store, ↓op_nilCheck, ↓op_bin, ↓op_un, ↓op_convert, ↓op_makeFunc, ↓op_makeSlice, ↓op_slice, ↓op_fieldAddr, ↓op_field, ↓op_indexAddr, ↓op_index, ↓op_extract, ↓op_lookup, ↓op_mapUpdate, ↓op_makeMap, ↓op_range, ↓op_next, ↓op_call, ↓op_builtin, ↓g_tt, ↓g_ff, ↓g_tf, ↓g_ft, ↓g_tnt, ↓g_tnf, ↓g_fnt, ↓g_fnf, ↓mkT_getD]
  exact ⟨⟨twoP_is.pu, twoQ_is.pu⟩, VEnt.sl fun i hi => by rw [Nat.zero_add]; exact frzRow_sl twoA_is.pu hi⟩

theorem rSame_ok : Holds Proofs.Tryz.prog G0 63 sameIvC := by
  refine Holds.of_exC D63 Proofs.Tryz.func63 rfl foll (by kernel_rfl) (tab []) (tab_ok trivial) G0_ok fun k0 rl args hpu hpre => ?_
  unfold sameIvC at hpre ⊢
  split at hpre
  rotate_left
  · exact hpre.elim
  rename_i n sz a n' sz' b
  obtain ⟨rfl, rfl, ha, hb⟩ := hpre
  have hp1 := ha.pu
  have hp2 := hb.pu
  have hn1 := ha.1
  have hn2 := hb.1
  by_cases hnn : n = n'
  · subst hnn
    have hdd : decide ((n : Int) = (n : Int)) = true := decide_eq_true rfl
    simp only [Proofs.Tryz.f63]
    rw [enter_mkT (Nat.le_of_ble_eq_true rfl)]
    simp (maxSteps := 4000000) only [go_sem, ↓op_move, ↓op_assign, ↓op_pick, ↓op_alloc, ↓op_box, ↓op_build, ↓op_buildSlice, ↓op_load, ↓op_store, ↓op_nilCheck, ↓op_bin, ↓op_un, ↓op_convert, ↓op_makeFunc, ↓op_makeSlice, ↓op_slice, ↓op_fieldAddr, ↓op_field, ↓op_indexAddr, ↓op_index, ↓op_extract, ↓op_lookup, ↓op_mapUpdate, ↓op_makeMap, ↓op_range, ↓op_next, ↓op_call, ↓op_builtin, ↓g_tt, ↓g_ff, ↓g_tf, ↓g_ft, ↓g_tnt, ↓g_tnf, ↓g_fnt, ↓g_fnf, ↓mkT_getD, hp1, hp2, hdd]
    refine RestT.loopF (β := Nat) [(4, 5), (11, 25)] (fun i => [(5, .int .i64 i)]) (fun _ => fun _ => none) (fun i => i ≤ n ∧ ∀ j, j < i → cell a j 0 = cell b j 0 ∧ cell a j 1 = cell b j 1) (fun i => n - i) 0 ⟨Nat.zero_le _, fun j hj => absurd hj (Nat.not_lt_zero _)⟩ ?_ HpLe.none ?_
    · simp (maxSteps := 4000000) only [go_sem, ↓op_move, ↓op_assign, ↓op_pick, ↓op_alloc, ↓op_box, ↓op_build, ↓op_buildSlice, ↓op_load, ↓op_store, ↓op_nilCheck, ↓op_bin, ↓op_un, ↓op_convert, ↓op_makeFunc, ↓op_makeSlice, ↓op_slice, ↓op_fieldAddr, ↓op_field, ↓op_indexAddr, ↓op_index, ↓op_extract, ↓op_lookup, ↓op_mapUpdate, ↓op_makeMap, ↓op_range, ↓op_next, ↓op_call, ↓op_builtin, ↓g_tt, ↓g_ff, ↓g_tf, ↓g_ft, ↓g_tnt, ↓g_tnf, ↓g_fnt, ↓g_fnf, ↓mkT_getD]
      try exact rfl
    · intro ck i hck hI
      obtain ⟨hi, hf⟩ := hI
      generalize hq0 : exC _ _ _ _ _ = gg
      by_cases hlt : i < n
      · have hd : decide ((i : Int) < (n : Int)) = true := by simp; omega
        have hga := ha.2 i hlt
        have hgb := hb.2 i hlt
        by_cases he : cell a i 0 = cell b i 0 ∧ cell a i 1 = cell b i 1
        · have q1 : decide (cell a i 0 = cell b i 0) = true := decide_eq_true he.1
          have q2 : decide (cell a i 1 = cell b i 1) = true := decide_eq_true he.2
          rw [← hq0]
          clear hq0
          simp (maxSteps := 4000000) only [go_sem, ↓op_move, ↓op_assign, ↓op_pick, ↓op_alloc, ↓op_box, ↓op_build, ↓op_buildSlice, ↓op_load, ↓op_store, ↓op_nilCheck, ↓op_bin, ↓op_un, ↓op_convert, ↓op_makeFunc, ↓op_makeSlice, ↓op_slice, ↓op_fieldAddr, ↓op_field, ↓op_indexAddr, ↓op_index, ↓op_extract, ↓op_lookup, ↓op_mapUpdate, ↓op_makeMap, ↓op_range, ↓op_next, ↓op_call, ↓op_builtin, ↓g_tt, ↓g_ff, ↓g_tf, ↓g_ft, ↓g_tnt, ↓g_tnf, ↓g_fnt, ↓g_fnf, ↓mkT_getD, hd, hga, hgb, hp1, hp2, q1, q2]
          refine ⟨⟨by omega, by omega⟩, ⟨by omega, by omega⟩, inK_of (by omega) (by omega), by omega, i + 1, ⟨hlt, fun j hj => ?_⟩, by omega, rfl, HpLe.none⟩
          by_cases e : j = i
          · subst e; exact he
          · exact hf j (by omega)
        · have hs : sameG n a n b = false := by
            unfold sameG
            rw [Bool.and_eq_false_iff]
            exact .inr (decide_eq_false fun h => he (h i hlt))
          by_cases e1 : cell a i 0 = cell b i 0
          · have q1 : decide (cell a i 0 = cell b i 0) = true := decide_eq_true e1
            have q2 : decide (cell a i 1 = cell b i 1) = false := decide_eq_false fun e2 => he ⟨e1, e2⟩
            rw [← hq0]
            clear hq0
            simp (maxSteps := 4000000) only [go_sem, ↓op_move, ↓op_assign, ↓op_pick, ↓op_alloc, ↓op_box, ↓op_build, ↓op_buildSlice, ↓op_load, ↓op_store, ↓op_nilCheck, ↓op_bin, ↓op_un, ↓op_convert, ↓op_makeFunc, ↓op_makeSlice, ↓op_slice, ↓op_fieldAddr, ↓op_field, ↓op_indexAddr, ↓op_index, ↓op_extract, ↓op_lookup, ↓op_mapUpdate, ↓op_makeMap, ↓op_range, ↓op_next, ↓op_call, ↓op_builtin, ↓g_tt, ↓g_ff, ↓g_tf, ↓g_ft, ↓g_tnt, ↓g_tnf, ↓g_fnt, ↓g_fnf, ↓mkT_getD, hd, hga, hgb, hp1, hp2, q1, q2, hs]
            exact ⟨⟨by omega, by omega⟩, ⟨by omega, by omega⟩, VEnt.refl _⟩
          · have q1 : decide (cell a i 0 = cell b i 0) = false := decide_eq_false e1
            rw [← hq0]
            clear hq0
            simp (maxSteps := 4000000) only [go_sem, ↓op_move, ↓op_assign, ↓op_pick, ↓op_alloc, ↓op_box, ↓op_build, ↓op_buildSlice, ↓op_load, ↓op_store, ↓op_nilCheck, ↓op_bin, ↓op_un, ↓op_convert, ↓op_makeFunc, ↓op_makeSlice, ↓op_slice, ↓op_fieldAddr, ↓op_field, ↓op_indexAddr, ↓op_index, ↓op_extract, ↓op_lookup, ↓op_mapUpdate, ↓op_makeMap, ↓op_range, ↓op_next, ↓op_call, ↓op_builtin, ↓g_tt, ↓g_ff, ↓g_tf, ↓g_ft, ↓g_tnt, ↓g_tnf, ↓g_fnt, ↓g_fnf, ↓mkT_getD, hd, hga, hgb, hp1, hp2, q1, hs, Bool.false_and, Bool.not_false]
            exact ⟨⟨by omega, by omega⟩, ⟨by omega, by omega⟩, VEnt.refl _⟩
      · have hd : decide ((i : Int) < (n : Int)) = false := by simp; omega
        obtain rfl : i = n := by omega
        have hs : sameG i a i b = true := by
          unfold sameG
          rw [Bool.and_eq_true]
          exact ⟨decide_eq_true rfl, decide_eq_true hf⟩
        rw [← hq0]
        clear hq0
        simp (maxSteps := 4000000) only [go_sem, ↓op_move, ↓op_assign, ↓op_pick, ↓op_alloc, ↓op_box, ↓op_build, ↓op_buildSlice, ↓op_load, ↓op_store, ↓op_nilCheck, ↓op_bin, ↓op_un, ↓op_convert, ↓op_makeFunc, ↓op_makeSlice, ↓op_slice, ↓op_fieldAddr, ↓op_field, ↓op_indexAddr, ↓op_index, ↓op_extract, ↓op_lookup, ↓op_mapUpdate, ↓op_makeMap, ↓op_range, ↓op_next, ↓op_call, ↓op_builtin, ↓g_tt, ↓g_ff, ↓g_tf, ↓g_ft, ↓g_tnt, ↓g_tnf, ↓g_fnt, ↓g_fnf, ↓mkT_getD, hd, hp1, hp2, hs]
        exact VEnt.refl _
  · have hdd : decide ((n : Int) = (n' : Int)) = false := decide_eq_false (by omega)
    have hs : sameG n a n' b = false := by
      unfold sameG
      rw [Bool.and_eq_false_iff]
      exact .inl (decide_eq_false hnn)
    simp only [Proofs.Tryz.f63]
    rw [enter_mkT (Nat.le_of_ble_eq_true rfl)]
    simp (maxSteps := 4000000) only [go_sem, ↓op_move, ↓op_assign, ↓op_pick, ↓op_alloc, ↓op_box, ↓op_build, ↓op_buildSlice, ↓op_load, ↓op_store, ↓op_nilCheck, ↓op_bin, ↓op_un, ↓op_convert, ↓op_makeFunc, ↓op_makeSlice, ↓op_slice, ↓op_fieldAddr, ↓op_field, ↓op_indexAddr, ↓op_index, ↓op_extract, ↓op_lookup, ↓op_mapUpdate, ↓op_makeMap, ↓op_range, ↓op_next, ↓op_call, ↓op_builtin, ↓g_tt, ↓g_ff, ↓g_tf, ↓g_ft, ↓g_tnt, ↓g_tnf, ↓g_fnt, ↓g_fnf, ↓mkT_getD, hp1, hp2, hdd, hs]
    exact VEnt.refl _

theorem lSame_ok : Holds Proofs.Tryz.prog G0 80 sameIvC := by
  refine Holds.of_exC D80 Proofs.Tryz.func80 rfl foll (by kernel_rfl) (tab [(63, sameIvC)]) (tab_ok ⟨rSame_ok, trivial⟩) G0_ok fun k0 rl args hpu hpre => ?_
  unfold sameIvC at hpre ⊢
  split at hpre
  rotate_left
  · exact hpre.elim
  rename_i n sz a n' sz' b
  obtain ⟨rfl, rfl, ha, hb⟩ := hpre
  have hp1 := ha.pu
  have hp2 := hb.pu
  simp only [Proofs.Tryz.f80]
  rw [enter_mkT (Nat.le_of_ble_eq_true rfl)]
  simp (maxSteps := 4000000) only [go_sem, ↓op_move, ↓op_assign, ↓op_pick, ↓op_alloc, ↓op_box, ↓op_build, ↓op_buildSlice, ↓op_load, ↓op_store, ↓op_nilCheck, ↓op_bin, ↓op_un, ↓op_convert, ↓op_makeFunc, ↓op_makeSlice, ↓op_slice, ↓op_fieldAddr, ↓op_field, ↓op_indexAddr, ↓op_index, ↓op_extract, ↓op_lookup, ↓op_mapUpdate, ↓op_makeMap, ↓op_range, ↓op_next, ↓op_call, ↓op_builtin, ↓g_tt, ↓g_ff, ↓g_tf, ↓g_ft, ↓g_tnt, ↓g_tnf, ↓g_fnt, ↓g_fnf, ↓mkT_getD, hp1, hp2]
  exact ⟨⟨ha, hb⟩, VEnt.refl _⟩

theorem qSameN_ok : Holds Proofs.Tryz.prog G0 55 sameNtC := by
  refine Holds.of_exC D55 Proofs.Tryz.func55 rfl foll (by kernel_rfl) (tab []) (tab_ok trivial) G0_ok fun k0 rl args hpu hpre => ?_
  unfold sameNtC at hpre ⊢
  split at hpre
  rotate_left
  · exact hpre.elim
  rename_i x y
  rcases hpre with ⟨rfl, rfl⟩ | ⟨n, a, n', b, rfl, rfl, ha, hb⟩
  · have hd : decide ((0 : Int) < 0) = false := rfl
    simp only [Proofs.Tryz.f55]
    rw [enter_mkT (Nat.le_of_ble_eq_true rfl)]
    simp (maxSteps := 4000000) only [go_sem, ↓op_move, ↓op_assign, ↓op_pick, ↓op_alloc, ↓op_box, ↓op_build, ↓op_buildSlice, ↓op_load, ↓op_store, ↓op_nilCheck, ↓op_bin, ↓op_un, ↓op_convert, ↓op_makeFunc, ↓op_makeSlice, ↓op_slice, ↓op_fieldAddr, ↓op_field, ↓op_indexAddr, ↓op_index, ↓op_extract, ↓op_lookup, ↓op_mapUpdate, ↓op_makeMap, ↓op_range, ↓op_next, ↓op_call, ↓op_builtin, ↓g_tt, ↓g_ff, ↓g_tf, ↓g_ft, ↓g_tnt, ↓g_tnf, ↓g_fnt, ↓g_fnf, ↓mkT_getD, hd]
    refine RestT.loopF (β := Unit) [(4, 5), (11, 25)] (fun _ => [(5, .int .i64 0)]) (fun _ => fun _ => none) (fun _ => True) (fun _ => 0) () trivial ?_ HpLe.none ?_
    · simp (maxSteps := 4000000) only [go_sem, ↓op_move, ↓op_assign, ↓op_pick, ↓op_alloc, ↓op_box, ↓op_build, ↓op_buildSlice, ↓op_load, ↓op_store, ↓op_nilCheck, ↓op_bin, ↓op_un, ↓op_convert, ↓op_makeFunc, ↓op_makeSlice, ↓op_slice, ↓op_fieldAddr, ↓op_field, ↓op_indexAddr, ↓op_index, ↓op_extract, ↓op_lookup, ↓op_mapUpdate, ↓op_makeMap, ↓op_range, ↓op_next, ↓op_call, ↓op_builtin, ↓g_tt, ↓g_ff, ↓g_tf, ↓g_ft, ↓g_tnt, ↓g_tnf, ↓g_fnt, ↓g_fnf, ↓mkT_getD]
      try exact rfl
    · intro ck i hck hI
      generalize hq0 : exC _ _ _ _ _ = gg
      rw [← hq0]
      clear hq0
      simp (maxSteps := 4000000) only [go_sem, ↓op_move, ↓op_assign, ↓op_pick, ↓op_alloc, ↓op_box, ↓op_build, ↓op_buildSlice, ↓op_load, ↓op_store, ↓op_nilCheck, ↓op_bin, ↓op_un, ↓op_convert, ↓op_makeFunc, ↓op_makeSlice, ↓op_slice, ↓op_fieldAddr, ↓op_field, ↓op_indexAddr, ↓op_index, ↓op_extract, ↓op_lookup, ↓op_mapUpdate, ↓op_makeMap, ↓op_range, ↓op_next, ↓op_call, ↓op_builtin, ↓g_tt, ↓g_ff, ↓g_tf, ↓g_ft, ↓g_tnt, ↓g_tnf, ↓g_fnt, ↓g_fnf, ↓mkT_getD, hd]
      exact VEnt.refl _
  · have hp1 := ha.pu
    have hp2 := hb.pu
    have hn1 := ha.1
    have hn2 := hb.1
    by_cases hnn : n = n'
    · subst hnn
      have hdd : decide ((n : Int) = (n : Int)) = true := decide_eq_true rfl
      simp only [Proofs.Tryz.f55]
      rw [enter_mkT (Nat.le_of_ble_eq_true rfl)]
      simp (maxSteps := 4000000) only [go_sem, ↓op_move, ↓op_assign, ↓op_pick, ↓op_alloc, ↓op_box, ↓op_build, ↓op_buildSlice, ↓op_load, ↓op_store, ↓op_nilCheck, ↓op_bin, ↓op_un, ↓op_convert, ↓op_makeFunc, ↓op_makeSlice, ↓op_slice, ↓op_fieldAddr, ↓op_field, ↓op_indexAddr, ↓op_index, ↓op_extract, ↓op_lookup, ↓op_mapUpdate, ↓op_makeMap, ↓op_range, ↓op_next, ↓op_call, ↓op_builtin, ↓g_tt, ↓g_ff, ↓g_tf, ↓g_ft, ↓g_tnt, ↓g_tnf, ↓g_fnt, ↓g_fnf, ↓mkT_getD, hp1, hp2, hdd]
      refine RestT.loopF (β := Nat) [(4, 5), (11, 25)] (fun i => [(5, .int .i64 i)]) (fun _ => fun _ => none) (fun i => i ≤ n ∧ ∀ j, j < i → intAt a j = intAt b j) (fun i => n - i) 0 ⟨Nat.zero_le _, fun j hj => absurd hj (Nat.not_lt_zero _)⟩ ?_ HpLe.none ?_
      · simp (maxSteps := 4000000) only [go_sem, ↓op_move, ↓op_assign, ↓op_pick, ↓op_alloc, ↓op_box, ↓op_build, ↓op_buildSlice, ↓op_load, ↓op_store, ↓op_nilCheck, ↓op_bin, ↓op_un, ↓op_convert, ↓op_makeFunc, ↓op_makeSlice, ↓op_slice, ↓op_fieldAddr, ↓op_field, ↓op_indexAddr, ↓op_index, ↓op_extract, ↓op_lookup, ↓op_mapUpdate, ↓op_makeMap, ↓op_range, ↓op_next, ↓op_call, ↓op_builtin, ↓g_tt, ↓g_ff, ↓g_tf, ↓g_ft, ↓g_tnt, ↓g_tnf, ↓g_fnt, ↓g_fnf, ↓mkT_getD]
        try exact rfl
      · intro ck i hck hI
        obtain ⟨hi, hf⟩ := hI
        generalize hq0 : exC _ _ _ _ _ = gg
        by_cases hlt : i < n
        · have hd : decide ((i : Int) < (n : Int)) = true := by simp; omega
          have hga := ha.2 i hlt
          have hgb := hb.2 i hlt
          by_cases he : intAt a i = intAt b i
          · have q1 : decide (intAt a i = intAt b i) = true := decide_eq_true he
            rw [← hq0]
            clear hq0
            simp (maxSteps := 4000000) only [go_sem, ↓op_move, ↓op_assign, ↓op_pick, ↓op_alloc, ↓op_box, ↓op_build, ↓op_buildSlice, ↓op_load, ↓op_store, ↓op_nilCheck, ↓op_bin, ↓op_un, ↓op_convert, ↓op_makeFunc, ↓op_makeSlice, ↓op_slice, ↓op_fieldAddr, ↓op_field, ↓op_indexAddr, ↓op_index, ↓op_extract, ↓op_lookup, ↓op_mapUpdate, ↓op_makeMap, ↓op_range, ↓op_next, ↓op_call, ↓op_builtin, ↓g_tt, ↓g_ff, ↓g_tf, ↓g_ft, ↓g_tnt, ↓g_tnf, ↓g_fnt, ↓g_fnf, ↓mkT_getD, hd, hga, hgb, hp1, hp2, q1]
            refine ⟨⟨by omega, by omega⟩, ⟨by omega, by omega⟩, inK_of (by omega) (by omega), by omega, i + 1, ⟨hlt, fun j hj => ?_⟩, by omega, rfl, HpLe.none⟩
            by_cases e : j = i
            · subst e; exact he
            · exact hf j (by omega)
          · have hs : sameN n a n b = false := by
              unfold sameN
              rw [Bool.and_eq_false_iff]
              exact .inr (decide_eq_false fun h => he (h i hlt))
            have q1 : decide (intAt a i = intAt b i) = false := decide_eq_false he
            rw [← hq0]
            clear hq0
            simp (maxSteps := 4000000) only [go_sem, ↓op_move, ↓op_assign, ↓op_pick, ↓op_alloc, ↓op_box, ↓op_build, ↓op_buildSlice, ↓op_load, ↓op_store, ↓op_nilCheck, ↓op_bin, ↓op_un, ↓op_convert, ↓op_makeFunc, ↓op_makeSlice, ↓op_slice, ↓op_fieldAddr, ↓op_field, ↓op_indexAddr, ↓op_index, ↓op_extract, ↓op_lookup, ↓op_mapUpdate, ↓op_makeMap, ↓op_range, ↓op_next, ↓op_call, ↓op_builtin, ↓g_tt, ↓g_ff, ↓g_tf, ↓g_ft, ↓g_tnt, ↓g_tnf, ↓g_fnt, ↓g_fnf, ↓mkT_getD, hd, hga, hgb, hp1, hp2, q1, hs, Bool.false_and, Bool.not_false]
            exact ⟨⟨by omega, by omega⟩, ⟨by omega, by omega⟩, VEnt.refl _⟩
        · have hd : decide ((i : Int) < (n : Int)) = false := by simp; omega
          obtain rfl : i = n := by omega
          have hs : sameN i a i b = true := by
            unfold sameN
            rw [Bool.and_eq_true]
            exact ⟨decide_eq_true rfl, decide_eq_true hf⟩
          rw [← hq0]
          clear hq0
          simp (maxSteps := 4000000) only [go_sem, ↓op_move, ↓op_assign, ↓op_pick, ↓op_alloc, ↓op_box, ↓op_build, ↓op_buildSlice, ↓op_load, ↓op_store, ↓op_nilCheck, ↓op_bin, ↓op_un, ↓op_convert, ↓op_makeFunc, ↓op_makeSlice, ↓op_slice, ↓op_fieldAddr, ↓op_field, ↓op_indexAddr, ↓op_index, ↓op_extract, ↓op_lookup, ↓op_mapUpdate, ↓op_makeMap, ↓op_range, ↓op_next, ↓op_call, ↓op_builtin, ↓g_tt, ↓g_ff, ↓g_tf, ↓g_ft, ↓g_tnt, ↓g_tnf, ↓g_fnt, ↓g_fnf, ↓mkT_getD, hd, hp1, hp2, hs]
          exact VEnt.refl _
    · have hdd : decide ((n : Int) = (n' : Int)) = false := decide_eq_false (by omega)
      have hs : sameN n a n' b = false := by
        unfold sameN
        rw [Bool.and_eq_false_iff]
        exact .inl (decide_eq_false hnn)
      simp only [Proofs.Tryz.f55]
      rw [enter_mkT (Nat.le_of_ble_eq_true rfl)]
      simp (maxSteps := 4000000) only [go_sem, ↓op_move, ↓op_assign, ↓op_pick, ↓op_alloc, ↓op_box, ↓op_build, ↓op_buildSlice, ↓op_load, ↓op_store, ↓op_nilCheck, ↓op_bin, ↓op_un, ↓op_convert, ↓op_makeFunc, ↓op_makeSlice, ↓op_slice, ↓op_fieldAddr, ↓op_field, ↓op_indexAddr, ↓op_index, ↓op_extract, ↓op_lookup, ↓op_mapUpdate, ↓op_makeMap, ↓op_range, ↓op_next, ↓op_call, ↓op_builtin, ↓g_tt, ↓g_ff, ↓g_tf, ↓g_ft, ↓g_tnt, ↓g_tnf, ↓g_fnt, ↓g_fnf, ↓mkT_getD, hp1, hp2, hdd, hs]
      exact VEnt.refl _
end Go.Fly.Tryz
end
section
/- The law's fixed examples. -/
set_option maxRecDepth 100000
set_option maxHeartbeats 40000000
namespace Go.Fly.Tryz
open Go

def DAw : Tabs
  | 11 => [[], [], [], [], [], [], [], [], [], [], [], [], [], [], [], [], [], [], [], [], [], [], [], [], [], [], [], [], [], [], [], [], [], [], [], [], [], [], [], [], [], [], [], [], [], [], [], [], [], [], [], [], [], [], [], [], [55], [], [], [], [], [], [], [], [], [], [], [], [], [], [], [], [], [], [], [], [], [], [], [], [], [], [], [], [], [], [], [], [], [], [], [], [], [], [], [], [], [], [], [], [], [], []]
  | _ => []
attribute [go_sem] DAw
theorem lAwake_ok : Holds Proofs.Tryz.prog G0 15 awakeC := by
  refine Holds.of_exC DAw Proofs.Tryz.func15 rfl foll (by kernel_rfl) (tab [(18, lat3C), (20, splitC), (21, rev3C), (29, len3C), (31, steps3C), (37, passed3C), (38, echo3C), (41, arr3C), (43, em3C), (49, cmp3C), (50, rank3C), (55, sameNtC), (56, bent3C), (57, shad3C), (58, turn3C), (66, ofIvC), (67, fac3C), (68, share3C), (70, tot3C), (71, print3C), (77, twoC), (78, toPathC), (79, vecC), (80, sameIvC), (iceKey 113, iceC), (iceKey 123, iceC), (iceKey 327, iceC)]) (tab_ok ⟨gLat_ok, gSplit_ok, gRev_ok, gLen_ok, gSteps3_ok, gPassed3_ok, gEcho_ok, gArr_ok, gEm_ok, gCmp_ok, gRanked_ok, qSameN_ok, gBent_ok, gShad_ok, gTurn_ok, lOf_ok, gFac_ok, gShare_ok, gTot_ok, kPrint_ok, lTwo_ok, lTo_ok, lAt_ok, lSame_ok, ice_holds, ice_holds, ice_holds, trivial⟩) G0_ok fun k0 rl args hpu hpre => ?_
  unfold awakeC at hpre ⊢
  split at hpre
  rotate_left
  · exact hpre.elim
  have hpu := twoA_is.pu
  have f12 := aw_rep.pu
  have hpr := revG_is.pu
  have hp1 := two1_is.pu
  have h1T := eq_true two1_is
  simp only [Proofs.Tryz.f15]
  rw [enter_mkT (Nat.le_of_ble_eq_true rfl)]
  simp (maxSteps := 4000000) only [go_sem, ↓op_move, ↓op_assign, ↓op_pick, ↓op_alloc, ↓op_box, ↓op_build, ↓op_buildSlice, ↓op_load, ↓op_store, ↓op_nilCheck, ↓op_bin, ↓op_un, ↓op_convert, ↓op_makeFunc, ↓op_makeSlice, ↓op_slice, ↓op_fieldAddr, ↓op_field, ↓op_indexAddr, ↓op_index, ↓op_extract, ↓op_lookup, ↓op_mapUpdate, ↓op_makeMap, ↓op_range, ↓op_next, ↓op_call, ↓op_builtin, ↓g_tt, ↓g_ff, ↓g_tf, ↓g_ft, ↓g_tnt, ↓g_tnf, ↓g_fnt, ↓g_fnf, ↓mkT_getD, hpu, aw_f1, aw_f2, aw_f3, aw_f4, aw_f5, aw_f6, aw_f7, aw_f8, aw_f9, aw_f10, aw_f11, aw_g1, aw_g2, aw_g3, aw_s1, aw_s2, aw_s3, aw_s4, aw_s5, aw_s6, aw_h1, aw_h2, aw_h3, f12, orE_0, orE_7, ay_1, ay_2, ay_3, ay_4, ay_5, ay_6, ay_7, ay_8, ay_9, ay_10, ay_11, ay_12, ay_13, ay_14, ay_15, ay_16, ay_17, ay_18, ay_19, ay_20, ay_21, ay_22, ay_23, ay_24, ay_25, ay_26, ay_27, ay_28, ay_29, ay_30, ay_31, ay_32, ay_33, ay_34, isIv_lit1, isIv_lit1', isIv_lit2, isIv_f1, isIv_f2, isInts_l1, isInts_l2, isInts_f2, twoA_T, imp34_T, imp01_T, hpr, hp1, h1T, List.append_eq, List.cons_append, List.nil_append]
  have hin1 : ∀ a : Int, Pu (.sl 1 1 (rowAt [V.int .i64 a] 1)) := fun a => (show IsInts 1 _ from of_eq_true isInts_l1).pu
  have hti : IsIv 1 (totG 2 twoA 0 0 0 100 0 0 1 1 (rowAt [V.int .i64 1000] 1)) := isIv_fn _ _ (by decide)
  have h0 : inK .i64 0 := inK_of (by decide) (by decide)
  exact ⟨.inl (hin1 _), .inl (show IsIv 1 _ from of_eq_true isIv_lit1').pu, h0, h0, h0, h0, h0, h0, h0, h0, h0, ⟨.inl (hin1 _), hti.pu⟩, h0, h0, h0, h0, h0, h0, h0, h0, h0, h0, h0, h0, h0, h0,
    ⟨_, _, _, _, rfl, rfl, of_eq_true isInts_f2, of_eq_true isInts_l2⟩, hti, VEnt.refl _⟩
end Go.Fly.Tryz
end
