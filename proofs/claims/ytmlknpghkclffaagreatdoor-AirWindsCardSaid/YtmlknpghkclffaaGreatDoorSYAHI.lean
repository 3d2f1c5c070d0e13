/- Part of a proof: an evaluator of the model's code by abstract values, and plain laws for it. No conditions. -/
import Derived.Test.YtmlknpghkclffaaGreatDoorSYAHE
import Derived.Test.YtmlknpghkclffaaGreatDoorAZ
import Derived.Test.YtmlknpghkclffaaGreatDoorBA
set_option linter.unusedSimpArgs false
set_option linter.unusedVariables false
section
/- The reference's layers, and the law on them. -/
set_option maxRecDepth 100000
set_option maxHeartbeats 8000000
namespace Go.Fly.Tryz
open Go

end Go.Fly.Tryz
end
section
/- The reference's rank, and the law on it. -/
set_option maxRecDepth 100000
set_option maxHeartbeats 8000000
namespace Go.Fly.Tryz
open Go

theorem rRank_ok : Holds Proofs.Tryz.prog G0 54 rankRC := by
  refine Holds.of_exC D54 Proofs.Tryz.func54 rfl foll (by kernel_rfl) (tab [(53, cmpRC), (iceKey 3, iceC)]) (tab_ok ⟨rCmp_ok, ice_holds, trivial⟩) G0_ok fun k0 rl args hpu hpre => ?_
  unfold rankRC at hpre ⊢
  split at hpre
  rotate_left
  · exact hpre.elim
  rename_i n sz get x y
  obtain ⟨rfl, hair, hae, hal⟩ := hpre
  have hp := hair.pu
  have hok := airE_ok hae
  have hcnt := hok.cnt
  obtain ⟨hD, hxy⟩ := along_sq hal
  have hb := alongE_zero hal
  simp only [Proofs.Tryz.f54]
  rw [enter_mkT (Nat.le_of_ble_eq_true rfl)]
  simp (maxSteps := 4000000) only [go_sem, ↓op_move, ↓op_assign, ↓op_pick, ↓op_alloc, ↓op_box, ↓op_build, ↓op_buildSlice, ↓op_load, ↓op_store, ↓op_nilCheck, ↓op_bin, ↓op_un, ↓op_convert, ↓op_makeFunc, ↓op_makeSlice, ↓op_slice, ↓op_fieldAddr, ↓op_field, ↓op_indexAddr, ↓op_index, ↓op_extract, ↓op_lookup, ↓op_mapUpdate, ↓op_makeMap, ↓op_range, ↓op_next, ↓op_call, ↓op_builtin, ↓g_tt, ↓g_ff, ↓g_tf, ↓g_ft, ↓g_tnt, ↓g_tnf, ↓g_fnt, ↓g_fnf, ↓mkT_getD, hp]
  refine ⟨⟨by omega, by omega, by omega, by omega⟩, ?_⟩
  refine RestT.ents (Ents.nilArr (d := 5) (l := (5, 1000)) 1 (fun _ => []) rfl (by simp [updH]) rfl) ?_
  simp (maxSteps := 4000000) only [go_sem, ↓op_move, ↓op_assign, ↓op_pick, ↓op_alloc, ↓op_box, ↓op_build, ↓op_buildSlice, ↓op_load, ↓op_store, ↓op_nilCheck, ↓op_bin, ↓op_un, ↓op_convert, ↓op_makeFunc, ↓op_makeSlice, ↓op_slice, ↓op_fieldAddr, ↓op_field, ↓op_indexAddr, ↓op_index, ↓op_extract, ↓op_lookup, ↓op_mapUpdate, ↓op_makeMap, ↓op_range, ↓op_next, ↓op_call, ↓op_builtin, ↓g_tt, ↓g_ff, ↓g_tf, ↓g_ft, ↓g_tnt, ↓g_tnf, ↓g_fnt, ↓g_fnf, ↓mkT_getD]
  refine RestT.loopF (β := Nat) [(5, 5), (7, 8), (14, 47)] (fun k => [(5, .msl (5, 1000) 0 k), (14, .int .i64 k)]) (fun k => updH (updH (fun _ => none) (4, 11) (.arr n 1 fun i => [.bool (takG n get x y k i)])) (5, 1000) (.arr k 1 fun i => [.int .i64 (rankG n get x y i)])) (fun k => k ≤ n) (fun k => n - k) 0 (Nat.zero_le _) ?_
    (HpLe.upd (HpLe.upd HpLe.none ⟨_, (updH_ne (by decide)).trans (updH_same _ _ _), ObjLe.refl _⟩) ⟨_, updH_same _ _ _, objLe_arr fun k hk => by omega⟩) ?_
  · simp (maxSteps := 4000000) only [go_sem, ↓op_move, ↓op_assign, ↓op_pick, ↓op_alloc, ↓op_box, ↓op_build, ↓op_buildSlice, ↓op_load, ↓op_store, ↓op_nilCheck, ↓op_bin, ↓op_un, ↓op_convert, ↓op_makeFunc, ↓op_makeSlice, ↓op_slice, ↓op_fieldAddr, ↓op_field, ↓op_indexAddr, ↓op_index, ↓op_extract, ↓op_lookup, ↓op_mapUpdate, ↓op_makeMap, ↓op_range, ↓op_next, ↓op_call, ↓op_builtin, ↓g_tt, ↓g_ff, ↓g_tf, ↓g_ft, ↓g_tnt, ↓g_tnf, ↓g_fnt, ↓g_fnf, ↓mkT_getD]
    try exact rfl
  · intro ck k hck hk
    have hk : k ≤ n := hk
    generalize hq0 : exC _ _ _ _ _ = gg
    by_cases hlt : k < n
    · have hdd : decide ((k : Int) < (n : Int)) = true := by simp; omega
      rw [← hq0]
      clear hq0
      simp (maxSteps := 4000000) only [go_sem, ↓op_move, ↓op_assign, ↓op_pick, ↓op_alloc, ↓op_box, ↓op_build, ↓op_buildSlice, ↓op_load, ↓op_store, ↓op_nilCheck, ↓op_bin, ↓op_un, ↓op_convert, ↓op_makeFunc, ↓op_makeSlice, ↓op_slice, ↓op_fieldAddr, ↓op_field, ↓op_indexAddr, ↓op_index, ↓op_extract, ↓op_lookup, ↓op_mapUpdate, ↓op_makeMap, ↓op_range, ↓op_next, ↓op_call, ↓op_builtin, ↓g_tt, ↓g_ff, ↓g_tf, ↓g_ft, ↓g_tnt, ↓g_tnf, ↓g_fnt, ↓g_fnf, ↓mkT_getD, hdd, hp]
      refine RestT.loopF (β := Nat) [(7, 8), (16, 39)] (fun i => [(7, .int .i64 (bstG n get x y k i)), (8, .int .i64 i)]) (fun _ => updH (updH (fun _ => none) (4, 11) (.arr n 1 fun i => [.bool (takG n get x y k i)])) (5, 1000) (.arr k 1 fun i => [.int .i64 (rankG n get x y i)])) (fun i => i ≤ n) (fun i => n - i) 0 (Nat.zero_le _) ?_ (HpLe.refl _) ?_
      · simp (maxSteps := 4000000) only [go_sem, ↓op_move, ↓op_assign, ↓op_pick, ↓op_alloc, ↓op_box, ↓op_build, ↓op_buildSlice, ↓op_load, ↓op_store, ↓op_nilCheck, ↓op_bin, ↓op_un, ↓op_convert, ↓op_makeFunc, ↓op_makeSlice, ↓op_slice, ↓op_fieldAddr, ↓op_field, ↓op_indexAddr, ↓op_index, ↓op_extract, ↓op_lookup, ↓op_mapUpdate, ↓op_makeMap, ↓op_range, ↓op_next, ↓op_call, ↓op_builtin, ↓g_tt, ↓g_ff, ↓g_tf, ↓g_ft, ↓g_tnt, ↓g_tnf, ↓g_fnt, ↓g_fnf, ↓mkT_getD]
        try exact rfl
      · intro ck2 i hck2 hi
        have hi : i ≤ n := hi
        generalize hq1 : exC _ _ _ _ _ = gg1
        by_cases hlt2 : i < n
        · have hd2 : decide ((i : Int) < (n : Int)) = true := by simp; omega
          have hbd := bstG_bd (n := n) (get := get) hD (k := k) i
          cases ht : takG n get x y k i
          · by_cases h0 : bstG n get x y k i < 0
            · have d0 : decide (bstG n get x y k i < 0) = true := decide_eq_true h0
              have hnext : bstG n get x y k (i + 1) = i := if_pos ⟨ht, .inl h0⟩
              rw [← hq1]
              clear hq1
              simp (maxSteps := 4000000) only [go_sem, ↓op_move, ↓op_assign, ↓op_pick, ↓op_alloc, ↓op_box, ↓op_build, ↓op_buildSlice, ↓op_load, ↓op_store, ↓op_nilCheck, ↓op_bin, ↓op_un, ↓op_convert, ↓op_makeFunc, ↓op_makeSlice, ↓op_slice, ↓op_fieldAddr, ↓op_field, ↓op_indexAddr, ↓op_index, ↓op_extract, ↓op_lookup, ↓op_mapUpdate, ↓op_makeMap, ↓op_range, ↓op_next, ↓op_call, ↓op_builtin, ↓g_tt, ↓g_ff, ↓g_tf, ↓g_ft, ↓g_tnt, ↓g_tnf, ↓g_fnt, ↓g_fnf, ↓mkT_getD, hd2, hp, ht, d0, Int.toNat_natCast, Nat.zero_add]
              exact ⟨⟨by omega, by omega⟩, inK_of (by omega) (by omega), by omega, i + 1, hlt2, by omega, ⟨by rw [hnext], by rw [Int.natCast_add]; rfl⟩, HpLe.refl _⟩
            · have d0 : decide (bstG n get x y k i < 0) = false := decide_eq_false h0
              by_cases h1 : 0 < cmpV get i (bstG n get x y k i).toNat x y
              · have d1 : decide (0 < cmpV get i (bstG n get x y k i).toNat x y) = true := decide_eq_true h1
                have hnext : bstG n get x y k (i + 1) = i := if_pos ⟨ht, .inr h1⟩
                rw [← hq1]
                clear hq1
                simp (maxSteps := 4000000) only [go_sem, ↓op_move, ↓op_assign, ↓op_pick, ↓op_alloc, ↓op_box, ↓op_build, ↓op_buildSlice, ↓op_load, ↓op_store, ↓op_nilCheck, ↓op_bin, ↓op_un, ↓op_convert, ↓op_makeFunc, ↓op_makeSlice, ↓op_slice, ↓op_fieldAddr, ↓op_field, ↓op_indexAddr, ↓op_index, ↓op_extract, ↓op_lookup, ↓op_mapUpdate, ↓op_makeMap, ↓op_range, ↓op_next, ↓op_call, ↓op_builtin, ↓g_tt, ↓g_ff, ↓g_tf, ↓g_ft, ↓g_tnt, ↓g_tnf, ↓g_fnt, ↓g_fnf, ↓mkT_getD, hd2, hp, ht, d0, d1, Int.toNat_natCast, Nat.zero_add]
                exact ⟨⟨by omega, by omega⟩, ⟨hair, hae, ⟨by omega, by omega⟩, ⟨by omega, by omega⟩, hb.1, hb.2, hxy⟩, inK_of (by omega) (by omega), by omega, i + 1, hlt2, by omega, ⟨by rw [hnext], by rw [Int.natCast_add]; rfl⟩, HpLe.refl _⟩
              · have d1 : decide (0 < cmpV get i (bstG n get x y k i).toNat x y) = false := decide_eq_false h1
                have hnext : bstG n get x y k (i + 1) = bstG n get x y k i := if_neg fun q => by rcases q.2 with q | q <;> contradiction
                rw [← hq1]
                clear hq1
                simp (maxSteps := 4000000) only [go_sem, ↓op_move, ↓op_assign, ↓op_pick, ↓op_alloc, ↓op_box, ↓op_build, ↓op_buildSlice, ↓op_load, ↓op_store, ↓op_nilCheck, ↓op_bin, ↓op_un, ↓op_convert, ↓op_makeFunc, ↓op_makeSlice, ↓op_slice, ↓op_fieldAddr, ↓op_field, ↓op_indexAddr, ↓op_index, ↓op_extract, ↓op_lookup, ↓op_mapUpdate, ↓op_makeMap, ↓op_range, ↓op_next, ↓op_call, ↓op_builtin, ↓g_tt, ↓g_ff, ↓g_tf, ↓g_ft, ↓g_tnt, ↓g_tnf, ↓g_fnt, ↓g_fnf, ↓mkT_getD, hd2, hp, ht, d0, d1, Int.toNat_natCast, Nat.zero_add]
                exact ⟨⟨by omega, by omega⟩, ⟨hair, hae, ⟨by omega, by omega⟩, ⟨by omega, by omega⟩, hb.1, hb.2, hxy⟩, inK_of (by omega) (by omega), by omega, i + 1, hlt2, by omega, ⟨by rw [hnext], by rw [Int.natCast_add]; rfl⟩, HpLe.refl _⟩
          · have hnext : bstG n get x y k (i + 1) = bstG n get x y k i := if_neg fun q => by rw [ht] at q; cases q.1
            rw [← hq1]
            clear hq1
            simp (maxSteps := 4000000) only [go_sem, ↓op_move, ↓op_assign, ↓op_pick, ↓op_alloc, ↓op_box, ↓op_build, ↓op_buildSlice, ↓op_load, ↓op_store, ↓op_nilCheck, ↓op_bin, ↓op_un, ↓op_convert, ↓op_makeFunc, ↓op_makeSlice, ↓op_slice, ↓op_fieldAddr, ↓op_field, ↓op_indexAddr, ↓op_index, ↓op_extract, ↓op_lookup, ↓op_mapUpdate, ↓op_makeMap, ↓op_range, ↓op_next, ↓op_call, ↓op_builtin, ↓g_tt, ↓g_ff, ↓g_tf, ↓g_ft, ↓g_tnt, ↓g_tnf, ↓g_fnt, ↓g_fnf, ↓mkT_getD, hd2, hp, ht, Int.toNat_natCast, Nat.zero_add]
            exact ⟨⟨by omega, by omega⟩, inK_of (by omega) (by omega), by omega, i + 1, hlt2, by omega, ⟨by rw [hnext], by rw [Int.natCast_add]; rfl⟩, HpLe.refl _⟩
        · have hd2 : decide ((i : Int) < (n : Int)) = false := by simp; omega
          obtain rfl : i = n := by omega
          obtain ⟨hO, hI, hS⟩ := rankG_ok (get := get) hD (n := i) (by omega)
          have hIk := hI k hlt
          obtain ⟨r, hr⟩ := Int.eq_ofNat_of_zero_le hIk.1
          have hbe : bstG i get x y k i = (r : Int) := (bstG_end hD hlt).trans hr
          rw [← hq1]
          clear hq1
          simp (maxSteps := 4000000) only [go_sem, ↓op_move, ↓op_assign, ↓op_pick, ↓op_alloc, ↓op_box, ↓op_build, ↓op_buildSlice, ↓op_load, ↓op_store, ↓op_nilCheck, ↓op_bin, ↓op_un, ↓op_convert, ↓op_makeFunc, ↓op_makeSlice, ↓op_slice, ↓op_fieldAddr, ↓op_field, ↓op_indexAddr, ↓op_index, ↓op_extract, ↓op_lookup, ↓op_mapUpdate, ↓op_makeMap, ↓op_range, ↓op_next, ↓op_call, ↓op_builtin, ↓g_tt, ↓g_ff, ↓g_tf, ↓g_ft, ↓g_tnt, ↓g_tnf, ↓g_fnt, ↓g_fnf, ↓mkT_getD, hd2, hp, hbe, Int.toNat_natCast, Nat.zero_add]
          refine ⟨⟨by omega, by omega⟩, ⟨by omega, by omega, fun i hi v hv => row_ok (cells := [V.int .i64 (r : Int)]) rfl ones1 i hi v (by rw [Nat.zero_add]; exact hv)⟩, inK_of (by omega) (by omega), by omega, k + 1, hlt, by omega, ⟨rfl, by rw [Int.natCast_add]; rfl⟩, ?_⟩
          refine HpLe.upd (HpLe.upd HpLe.none ⟨.arr i 1 (fun i' => if i' = r then [V.bool true] else [V.bool (takG i get x y k i')]), ?_, objLe_arr fun j hj => ?_⟩) ⟨_, updH_same _ _ _, objLe_arr fun j hj => ?_⟩
          · exact (updH_ne (by simp)).trans ((updH_ne (by simp)).trans (updH_same _ _ _))
          · show [V.bool (takG i get x y (k + 1) j)] = if j = r then [V.bool true] else [V.bool (takG i get x y k j)]
            rw [takG_succ hr]
            split <;> rfl
          · have hsn := snoc (f := fun m => [V.int .i64 (rankG i get x y m)]) (cells := [V.int .i64 (r : Int)]) rfl (by show [V.int .i64 (rankG i get x y k)] = _; rw [hr]) hj
            rw [Nat.zero_add] at hsn
            exact hsn
    · have hdd : decide ((k : Int) < (n : Int)) = false := by simp; omega
      obtain rfl : k = n := by omega
      rw [← hq0]
      clear hq0
      simp (maxSteps := 4000000) only [go_sem, ↓op_move, ↓op_assign, ↓op_pick, ↓op_alloc, ↓op_box, ↓op_build, ↓op_buildSlice, ↓op_load, ↓op_store, ↓op_nilCheck, ↓op_bin, ↓op_un, ↓op_convert, ↓op_makeFunc, ↓op_makeSlice, ↓op_slice, ↓op_fieldAddr, ↓op_field, ↓op_indexAddr, ↓op_index, ↓op_extract, ↓op_lookup, ↓op_mapUpdate, ↓op_makeMap, ↓op_range, ↓op_next, ↓op_call, ↓op_builtin, ↓g_tt, ↓g_ff, ↓g_tf, ↓g_ft, ↓g_tnt, ↓g_tnf, ↓g_fnt, ↓g_fnf, ↓mkT_getD, hdd, hp, Nat.zero_add]
      exact VEnt.refl _

theorem wWinds_ok : Holds Proofs.Tryz.prog G0 7 airWindC := by
  refine Holds.of_exC D7 Proofs.Tryz.func7 rfl foll (by kernel_rfl) (tab [(15, awakeC), (16, shortAirC), (17, airC), (19, ownAirC), (22, firstC), (49, cmp3C), (50, rank3C), (51, alongC), (52, lixC), (53, cmpRC), (54, rankRC), (55, sameNtC), (iceKey 4, iceC), (iceKey 5, iceC), (iceKey 57, iceC), (iceKey 61, iceC)]) (tab_ok ⟨lAwake_ok, rAirShort_ok, rAir_ok, lOwn_ok, qFirst_ok, gCmp_ok, gRanked_ok, rAlong_ok, rLix_ok, rCmp_ok, rRank_ok, qSameN_ok, ice_holds, ice_holds, ice_holds, ice_holds, trivial⟩) G0_ok fun k0 rl args hpu hpre => ?_
  unfold airWindC at hpre ⊢
  split at hpre
  rotate_left
  · exact hpre.elim
  rename_i n sz get i j x y
  obtain ⟨rfl, hair⟩ := hpre
  have hp := hair.pu
  have hn := hair.1
  cases hsh : shortAirB n get
  · simp only [Proofs.Tryz.f7]
    rw [enter_mkT (Nat.le_of_ble_eq_true rfl)]
    simp (maxSteps := 4000000) only [go_sem, ↓op_move, ↓op_assign, ↓op_pick, ↓op_alloc, ↓op_box, ↓op_build, ↓op_buildSlice, ↓op_load, ↓op_store, ↓op_nilCheck, ↓op_bin, ↓op_un, ↓op_convert, ↓op_makeFunc, ↓op_makeSlice, ↓op_slice, ↓op_fieldAddr, ↓op_field, ↓op_indexAddr, ↓op_index, ↓op_extract, ↓op_lookup, ↓op_mapUpdate, ↓op_makeMap, ↓op_range, ↓op_next, ↓op_call, ↓op_builtin, ↓g_tt, ↓g_ff, ↓g_tf, ↓g_ft, ↓g_tnt, ↓g_tnf, ↓g_fnt, ↓g_fnf, ↓mkT_getD, hp, hsh]
    exact ⟨hair, VEnt.refl _⟩
  · obtain ⟨hn9, hb9⟩ := short_use hsh
    have hown : IsAir n get ∧ n ≤ 1000 ∧ ∀ i, i < n → inN get i 4 ≤ 1000 := ⟨hair, by omega, fun i hi => by have := hb9 i hi; omega⟩
    have hce : firstL [airE n get, lixE n i, lixE n j, alongE x y] = cmp3E n get i j x y := rfl
    have hre : firstL [airE n get, alongE x y] = rkE n get x y := rfl
    have hF4 : firstI (intAt (rowAt [V.int .i64 (airE n get), V.int .i64 (lixE n i), V.int .i64 (lixE n j), V.int .i64 (alongE x y)] 1)) 0 4 = cmp3E n get i j x y := rfl
    have hF2 : firstI (intAt (rowAt [V.int .i64 (airE n get), V.int .i64 (alongE x y)] 1)) 0 2 = rkE n get x y := rfl
    have hl4 : IsInts 4 (rowAt [V.int .i64 (airE n get), V.int .i64 (lixE n i), V.int .i64 (lixE n j), V.int .i64 (alongE x y)] 1) := ⟨by decide, fun q hq => by
      match q, hq with
      | 0, _ => rfl
      | 1, _ => rfl
      | 2, _ => rfl
      | 3, _ => rfl⟩
    have hl2 : IsInts 2 (rowAt [V.int .i64 (airE n get), V.int .i64 (alongE x y)] 1) := ⟨by decide, fun q hq => by
      match q, hq with
      | 0, _ => rfl
      | 1, _ => rfl⟩
    have hp4 := hl4.pu
    have hp2 := hl2.pu
    have hs : sameN n (fun k => [V.int .i64 (rankG n get x y k)]) n (fun k => [V.int .i64 (rankG n get x y k)]) = true := by unfold sameN; simp
    by_cases h2 : rkE n get x y = 0
    · have d2 : decide (rkE n get x y = 0) = true := decide_eq_true h2
      have d2' : decide ((0 : Int) = rkE n get x y) = true := decide_eq_true h2.symm
      have o2 := orE_noA h2
      have hz := firstL_zero.1 h2
      have hae : airE n get = 0 := hz _ (by simp)
      have hal : alongE x y = 0 := hz _ (by simp)
      obtain ⟨hD, hxy⟩ := along_sq hal
      have hb := alongE_zero hal
      by_cases h1 : cmp3E n get i j x y = 0
      · have d1 : decide (cmp3E n get i j x y = 0) = true := decide_eq_true h1
        have d1' : decide ((0 : Int) = cmp3E n get i j x y) = true := decide_eq_true h1.symm
        have o1 := orE_noA h1
        have hz1 := firstL_zero.1 h1
        have hi := lixE_zero.1 (hz1 (lixE n i) (by simp))
        have hj := lixE_zero.1 (hz1 (lixE n j) (by simp))
        simp only [Proofs.Tryz.f7]
        rw [enter_mkT (Nat.le_of_ble_eq_true rfl)]
        simp (maxSteps := 4000000) only [go_sem, ↓op_move, ↓op_assign, ↓op_pick, ↓op_alloc, ↓op_box, ↓op_build, ↓op_buildSlice, ↓op_load, ↓op_store, ↓op_nilCheck, ↓op_bin, ↓op_un, ↓op_convert, ↓op_makeFunc, ↓op_makeSlice, ↓op_slice, ↓op_fieldAddr, ↓op_field, ↓op_indexAddr, ↓op_index, ↓op_extract, ↓op_lookup, ↓op_mapUpdate, ↓op_makeMap, ↓op_range, ↓op_next, ↓op_call, ↓op_builtin, ↓g_tt, ↓g_ff, ↓g_tf, ↓g_ft, ↓g_tnt, ↓g_tnf, ↓g_fnt, ↓g_fnf, ↓mkT_getD, hp, hsh, hF4, hF2, hl4, hl2, hp4, hp2, o1, o2, d1, d1', d2, d2', hs, dec_self]
        exact ⟨hair, hown, hair, hown, hair, hair, ⟨hair, hae, hi, hj, hb.1, hb.2, hxy⟩, ⟨hair, hae, hal⟩, ⟨n, _, n, _, rfl, rfl, isInts_fn _ (by omega), isInts_fn _ (by omega)⟩, VEnt.refl _⟩
      · have d1 : decide (cmp3E n get i j x y = 0) = false := decide_eq_false h1
        have o1 := orE_errA h1
        simp only [Proofs.Tryz.f7]
        rw [enter_mkT (Nat.le_of_ble_eq_true rfl)]
        simp (maxSteps := 4000000) only [go_sem, ↓op_move, ↓op_assign, ↓op_pick, ↓op_alloc, ↓op_box, ↓op_build, ↓op_buildSlice, ↓op_load, ↓op_store, ↓op_nilCheck, ↓op_bin, ↓op_un, ↓op_convert, ↓op_makeFunc, ↓op_makeSlice, ↓op_slice, ↓op_fieldAddr, ↓op_field, ↓op_indexAddr, ↓op_index, ↓op_extract, ↓op_lookup, ↓op_mapUpdate, ↓op_makeMap, ↓op_range, ↓op_next, ↓op_call, ↓op_builtin, ↓g_tt, ↓g_ff, ↓g_tf, ↓g_ft, ↓g_tnt, ↓g_tnf, ↓g_fnt, ↓g_fnf, ↓mkT_getD, hp, hsh, hF4, hF2, hl4, hl2, hp4, hp2, o1, o2, d1, d2, d2', hs, dec_self]
        exact ⟨hair, hown, hair, hown, hair, hair, ⟨hair, hae, hal⟩, ⟨n, _, n, _, rfl, rfl, isInts_fn _ (by omega), isInts_fn _ (by omega)⟩, VEnt.refl _⟩
    · have d2 : decide (rkE n get x y = 0) = false := decide_eq_false h2
      have o2 := orE_errA h2
      have h1 : ¬ cmp3E n get i j x y = 0 := fun q => h2 (firstL_zero.2 fun z hz => by
        have hq := firstL_zero.1 q
        simp only [List.mem_cons, List.not_mem_nil, or_false] at hz
        rcases hz with rfl | rfl
        · exact hq _ (by simp)
        · exact hq _ (by simp))
      have d1 : decide (cmp3E n get i j x y = 0) = false := decide_eq_false h1
      have o1 := orE_errA h1
      simp only [Proofs.Tryz.f7]
      rw [enter_mkT (Nat.le_of_ble_eq_true rfl)]
      simp (maxSteps := 4000000) only [go_sem, ↓op_move, ↓op_assign, ↓op_pick, ↓op_alloc, ↓op_box, ↓op_build, ↓op_buildSlice, ↓op_load, ↓op_store, ↓op_nilCheck, ↓op_bin, ↓op_un, ↓op_convert, ↓op_makeFunc, ↓op_makeSlice, ↓op_slice, ↓op_fieldAddr, ↓op_field, ↓op_indexAddr, ↓op_index, ↓op_extract, ↓op_lookup, ↓op_mapUpdate, ↓op_makeMap, ↓op_range, ↓op_next, ↓op_call, ↓op_builtin, ↓g_tt, ↓g_ff, ↓g_tf, ↓g_ft, ↓g_tnt, ↓g_tnf, ↓g_fnt, ↓g_fnf, ↓mkT_getD, hp, hsh, hF4, hF2, hl4, hl2, hp4, hp2, o1, o2, d1, d2, hs, dec_self]
      exact ⟨hair, hown, hair, hown, hair, hair, VEnt.refl _⟩
end Go.Fly.Tryz
end
