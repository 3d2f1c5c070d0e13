/- The law on a path and its way back. -/
import Derived.Test.YtmlknpghkclffaaGreatDoorSYAHG
import Derived.Test.YtmlknpghkclffaaGreatDoorBA
set_option linter.unusedSimpArgs false
set_option linter.unusedVariables false
set_option maxRecDepth 100000
set_option maxHeartbeats 8000000
namespace Go.Fly.Tryz
open Go

theorem wThere_ok : Holds Proofs.Tryz.prog G0 9 airThereC := by
  refine Holds.of_exC D9 Proofs.Tryz.func9 rfl foll (by kernel_rfl) (tab [(15, awakeC), (16, shortAirC), (17, airC), (19, ownAirC), (21, rev3C), (29, len3C), (30, toPathRC), (31, steps3C), (32, pathC), (37, passed3C), (38, echo3C), (56, bent3C), (57, shad3C), (63, sameIvC), (64, toldC), (65, sameAirC), (iceKey 3, iceC)]) (tab_ok ⟨lAwake_ok, rAirShort_ok, rAir_ok, lOwn_ok, gRev_ok, gLen_ok, lPath_ok, gSteps3_ok, rPth_ok, gPassed3_ok, gEcho_ok, gBent_ok, gShad_ok, rSame_ok, lTold_ok, rSameA_ok, ice_holds, trivial⟩) G0_ok fun k0 rl args hpu hpre => ?_
  unfold airThereC at hpre ⊢
  split at hpre
  rotate_left
  · exact hpre.elim
  rename_i n sz get a b c d e f
  obtain ⟨rfl, hair⟩ := hpre
  have hp := hair.pu
  have hn := hair.1
  cases hsh : shortAirB n get
  · simp only [Proofs.Tryz.f9]
    rw [enter_mkT (Nat.le_of_ble_eq_true rfl)]
    simp (maxSteps := 4000000) only [go_sem, ↓op_move, ↓op_assign, ↓op_pick, ↓op_alloc, ↓op_box, ↓op_build, ↓op_buildSlice, ↓op_load, ↓op_store, ↓op_nilCheck, ↓op_bin, ↓op_un, ↓op_convert, ↓op_makeFunc, ↓op_makeSlice, ↓op_slice, ↓op_fieldAddr, ↓op_field, ↓op_indexAddr, ↓op_index, ↓op_extract, ↓op_lookup, ↓op_mapUpdate, ↓op_makeMap, ↓op_range, ↓op_next, ↓op_call, ↓op_builtin, ↓g_tt, ↓g_ff, ↓g_tf, ↓g_ft, ↓g_tnt, ↓g_tnf, ↓g_fnt, ↓g_fnf, ↓mkT_getD, hp, hsh]
    exact ⟨hair, VEnt.refl _⟩
  · obtain ⟨hn9, hb9⟩ := short_use hsh
    have hown : IsAir n get ∧ n ≤ 1000 ∧ ∀ i, i < n → inN get i 4 ≤ 1000 := ⟨hair, by omega, fun i hi => by have := hb9 i hi; omega⟩
    by_cases h0 : airE n get = 0
    · have d0 : decide (airE n get = 0) = true := decide_eq_true h0
      by_cases h1 : pathE a b c d e f = 0
      · have d1 : decide (pathE a b c d e f = 0) = true := decide_eq_true h1
        have hce : checkE n get a b c d e f = 0 := firstL_zero.2 fun z hz => by
          simp only [List.mem_cons, List.not_mem_nil, or_false] at hz
          rcases hz with rfl | rfl
          · exact h0
          · exact h1
        have hpath := (checkE_zero.1 hce).2
        have hcb : checkE n get d e f a b c = 0 := checkE_zero.2 ⟨h0, hpath.back⟩
        have h2 : pathE d e f a b c = 0 := (firstL_zero.1 hcb) _ (by simp)
        have hrv := isAir_rev hair
        have hrc : checkE n (revG get) d e f a b c = 0 := checkE_zero.2 ⟨airE_rev h0, hpath.back⟩
        have hok := airE_ok h0
        have hcnt := hok.cnt
        have o1 := orE_noA h1
        have o2 := orE_noA h2
        have o3 := orE_noA hce
        have o4 := orE_noA hcb
        have o5 := orE_noA hrc
        have o6 := orE_noA h0
        have o7 := orE_noA (airE_rev h0)
        have hpr := hrv.pu
        have hL : ∀ i, stLo n get (sqE a b c d e f) (min f c) (max f c) 0 0 f i = stLo n get (sqE a b c d e f) (min c f) (max c f) 0 0 c i := fun i => stLo_sym
        have hH : ∀ i, stHi n get (sqE a b c d e f) (min f c) (max f c) 0 0 f i = stHi n get (sqE a b c d e f) (min c f) (max c f) 0 0 c i := fun i => stHi_sym
        have hQL : ∀ k, qLo n get (sqE a b c d e f) (min f c) (max f c) 0 0 f k = qLo n get (sqE a b c d e f) (min c f) (max c f) 0 0 c k := fun k => qLo_sym
        have hQH : ∀ k, qHi n get (sqE a b c d e f) (min f c) (max f c) 0 0 f k = qHi n get (sqE a b c d e f) (min c f) (max c f) 0 0 c k := fun k => qHi_sym
        have hEL : ∀ k, qLo n get (ech a b c d e f) 0 f 0 c 0 k = qLo n get (ech a b c d e f) 0 c 0 f 0 k := fun k => eLo_sym
        have hEH : ∀ k, qHi n get (ech a b c d e f) 0 f 0 c 0 k = qHi n get (ech a b c d e f) 0 c 0 f 0 k := fun k => eHi_sym
        have hrr : shortAirB n (revG get) = true := hsh
        obtain ⟨hg0, hiv0⟩ := hair.2 0 hcnt.1
        have hp0 := hiv0.pu
        simp only [Proofs.Tryz.f9]
        rw [enter_mkT (Nat.le_of_ble_eq_true rfl)]
        simp (maxSteps := 4000000) only [go_sem, ↓op_move, ↓op_assign, ↓op_pick, ↓op_alloc, ↓op_box, ↓op_build, ↓op_buildSlice, ↓op_load, ↓op_store, ↓op_nilCheck, ↓op_bin, ↓op_un, ↓op_convert, ↓op_makeFunc, ↓op_makeSlice, ↓op_slice, ↓op_fieldAddr, ↓op_field, ↓op_indexAddr, ↓op_index, ↓op_extract, ↓op_lookup, ↓op_mapUpdate, ↓op_makeMap, ↓op_range, ↓op_next, ↓op_call, ↓op_builtin, ↓g_tt, ↓g_ff, ↓g_tf, ↓g_ft, ↓g_tnt, ↓g_tnf, ↓g_fnt, ↓g_fnf, ↓mkT_getD, hp, hsh, d0, d1, o1, o2, o3, o4, o5, o6, o7, dec_self, sqE_sym a b c d e f, ech_sym a b c d e f, hL, hH, hQL, hQH, hEL, hEH, sameG_self, hrr, hg0, hp0]
        have hb8 := hok.bands
        have hsq := sqE_bd hpath
        have hlen := there_len hpath
        have hfar := there_far hpath
        have hsum := there_sum hok hpath
        have hec := ech_bd hpath
        obtain ⟨⟨q1, q2, q3⟩, ⟨q4, q5, q6⟩, q7⟩ := id hpath
        have hst := fun i => stG_bd (n := n) (get := get) (flat := c) (sq := sqE a b c d e f) (y0 := 0) (y1 := 0) ⟨hsq.1, by omega⟩ (show min c f ≤ max c f by omega) (Int.le_refl 0) i
        have hst1 := fun i => st_one (n := n) (get := get) (flat := c) (sq := sqE a b c d e f) (z0 := min c f) (z1 := max c f) (y0 := 0) (y1 := 0) (i := i)
        have hsb := fun i => sum_bd (n := n) (get := get) (flat := c) (sq := sqE a b c d e f) (y0 := 0) (y1 := 0) ⟨hsq.1, by omega⟩ (show min c f ≤ max c f by omega) (Int.le_refl 0) i
        have hpb := fun i hi => q_bd (n := n) (get := get) (sq := sqE a b c d e f) (z0 := min c f) (z1 := max c f) (y0 := 0) (y1 := 0) (flat := c) (k := i) hok ⟨hsq.1, by omega⟩ (by omega) (Int.le_refl 0) hi
        have hqb := fun i hi => q_bd (n := n) (get := get) (sq := ech a b c d e f) (z0 := 0) (z1 := c) (y0 := 0) (y1 := f) (flat := 0) (k := i) hok ⟨hec.1, hec.2.1⟩ (by omega) (by omega) hi
        have k0 : inK .i64 0 := inK_of (by decide) (by decide)
        refine ⟨hair, hair, hown, hair, hown, hair, hown, hair, hown, hair, hown, hair, hown, hair, k0, k0, k0, k0, k0, k0, k0, isIv_fn _ _ (by omega), isIv_fn _ _ (by omega), isIv_fn _ _ (by omega), by omega, inK_of (by omega) (by omega), inK_of (by omega) (by omega), inK_of (by omega) (by omega), ?_⟩
        refine RestT.loopF (β := Nat) [(4, 4), (23, 23), (209, 219)] (fun i => [(209, .int .i64 i)]) (fun _ => updH (updH (updH (fun _ => none) (4, 5) (.cells [.int .i64 d, .int .i64 e, .int .i64 f, .int .i64 a, .int .i64 b, .int .i64 c])) (5, 6) (.cells [.int .i64 (rootE (sqE a b c d e f) 1), .int .i64 (rootUp (sqE a b c d e f) 1)])) (6, 8) (.cells [.int .i64 (rootE (sqE a b c d e f) 1), .int .i64 (rootUp (sqE a b c d e f) 1)]))
          (fun i => i ≤ 3) (fun i => 3 - i) 0 (by omega) ?_ (HpLe.upd (HpLe.upd (HpLe.upd HpLe.none ⟨_, by simp [updH], ObjLe.refl _⟩) ⟨_, by simp [updH], ObjLe.refl _⟩) ⟨_, by simp [updH], ObjLe.refl _⟩) ?_
        · simp (maxSteps := 4000000) only [go_sem, ↓op_move, ↓op_assign, ↓op_pick, ↓op_alloc, ↓op_box, ↓op_build, ↓op_buildSlice, ↓op_load, ↓op_store, ↓op_nilCheck, ↓op_bin, ↓op_un, ↓op_convert, ↓op_makeFunc, ↓op_makeSlice, ↓op_slice, ↓op_fieldAddr, ↓op_field, ↓op_indexAddr, ↓op_index, ↓op_extract, ↓op_lookup, ↓op_mapUpdate, ↓op_makeMap, ↓op_range, ↓op_next, ↓op_call, ↓op_builtin, ↓g_tt, ↓g_ff, ↓g_tf, ↓g_ft, ↓g_tnt, ↓g_tnf, ↓g_fnt, ↓g_fnf, ↓mkT_getD]
          try exact rfl
        · intro ck i hck hi
          have hk4 : ¬ ck = 4 := by omega
          have hk5 : ¬ ck = 5 := by omega
          have hk6 : ¬ ck = 6 := by omega
          generalize hq0 : exC _ _ _ _ _ = gg
          by_cases hlt : i < 3
          · have hd : decide ((i : Int) < 3) = true := by simp; omega
            obtain ⟨z, hz, hzm, hzi⟩ : ∃ z : Int, ([V.int .i64 (d - a), V.int .i64 (e - b), V.int .i64 (f - c)])[i]? = some (V.int .i64 z) ∧ max z (-z) ≤ rootUp (sqE a b c d e f) 1 ∧ -20000 ≤ z ∧ z ≤ 20000 := by
              have h3 : i = 0 ∨ i = 1 ∨ i = 2 := by omega
              rcases h3 with rfl | rfl | rfl
              · exact ⟨_, rfl, hfar.1, by omega⟩
              · exact ⟨_, rfl, hfar.2.1, by omega⟩
              · exact ⟨_, rfl, hfar.2.2, by omega⟩
            have hm : decide (rootUp (sqE a b c d e f) 1 < max z (-z)) = false := decide_eq_false (by omega)
            rw [← hq0]
            clear hq0
            simp (maxSteps := 4000000) only [go_sem, ↓op_move, ↓op_assign, ↓op_pick, ↓op_alloc, ↓op_box, ↓op_build, ↓op_buildSlice, ↓op_load, ↓op_store, ↓op_nilCheck, ↓op_bin, ↓op_un, ↓op_convert, ↓op_makeFunc, ↓op_makeSlice, ↓op_slice, ↓op_fieldAddr, ↓op_field, ↓op_indexAddr, ↓op_index, ↓op_extract, ↓op_lookup, ↓op_mapUpdate, ↓op_makeMap, ↓op_range, ↓op_next, ↓op_call, ↓op_builtin, ↓g_tt, ↓g_ff, ↓g_tf, ↓g_ft, ↓g_tnt, ↓g_tnf, ↓g_fnt, ↓g_fnf, ↓mkT_getD, hd, hz, hm, hk4, hk5, hk6, Int.toNat_natCast, Nat.mul_one, Option.map_some]
            exact ⟨⟨by omega, by omega⟩, inK_of (by omega) (by omega), inK_of (by omega) (by omega), by omega, i + 1, hlt, by omega, by rw [Int.natCast_add]; rfl, HpLe.refl _⟩
          · have hd : decide ((i : Int) < 3) = false := by simp; omega
            rw [← hq0]
            clear hq0
            simp (maxSteps := 4000000) only [go_sem, ↓op_move, ↓op_assign, ↓op_pick, ↓op_alloc, ↓op_box, ↓op_build, ↓op_buildSlice, ↓op_load, ↓op_store, ↓op_nilCheck, ↓op_bin, ↓op_un, ↓op_convert, ↓op_makeFunc, ↓op_makeSlice, ↓op_slice, ↓op_fieldAddr, ↓op_field, ↓op_indexAddr, ↓op_index, ↓op_extract, ↓op_lookup, ↓op_mapUpdate, ↓op_makeMap, ↓op_range, ↓op_next, ↓op_call, ↓op_builtin, ↓g_tt, ↓g_ff, ↓g_tf, ↓g_ft, ↓g_tnt, ↓g_tnf, ↓g_fnt, ↓g_fnf, ↓mkT_getD, hd, hp, hk4, hk5, hk6]
            refine RestT.loopF (β := Nat) [(4, 4), (24, 25), (27, 27), (222, 252)] (fun i => [(24, .int .i64 (sumI (stLo n get (sqE a b c d e f) (min c f) (max c f) 0 0 c) i)), (25, .int .i64 (sumI (stHi n get (sqE a b c d e f) (min c f) (max c f) 0 0 c) i)), (222, .int .i64 i)]) (fun _ => updH (updH (updH (fun _ => none) (4, 5) (.cells [.int .i64 d, .int .i64 e, .int .i64 f, .int .i64 a, .int .i64 b, .int .i64 c])) (5, 6) (.cells [.int .i64 (rootE (sqE a b c d e f) 1), .int .i64 (rootUp (sqE a b c d e f) 1)])) (6, 8) (.cells [.int .i64 (rootE (sqE a b c d e f) 1), .int .i64 (rootUp (sqE a b c d e f) 1)]))
              (fun i => i ≤ n) (fun i => n - i) 0 (Nat.zero_le _) ?_ (HpLe.refl _) ?_
            · simp (maxSteps := 4000000) only [go_sem, ↓op_move, ↓op_assign, ↓op_pick, ↓op_alloc, ↓op_box, ↓op_build, ↓op_buildSlice, ↓op_load, ↓op_store, ↓op_nilCheck, ↓op_bin, ↓op_un, ↓op_convert, ↓op_makeFunc, ↓op_makeSlice, ↓op_slice, ↓op_fieldAddr, ↓op_field, ↓op_indexAddr, ↓op_index, ↓op_extract, ↓op_lookup, ↓op_mapUpdate, ↓op_makeMap, ↓op_range, ↓op_next, ↓op_call, ↓op_builtin, ↓g_tt, ↓g_ff, ↓g_tf, ↓g_ft, ↓g_tnt, ↓g_tnf, ↓g_fnt, ↓g_fnf, ↓mkT_getD]
              try exact ⟨rfl, rfl⟩
            · intro ck2 i hck2 hi
              have hk4 : ¬ ck2 = 4 := by omega
              have hk5 : ¬ ck2 = 5 := by omega
              have hk6 : ¬ ck2 = 6 := by omega
              generalize hq0 : exC _ _ _ _ _ = gg
              by_cases hlt : i < n
              · have hd : decide ((i : Int) < (n : Int)) = true := by simp; omega
                have s1 := hst i
                have s2 := @hst1 i
                have s3 := hsb i
                have s4 := hsb (i + 1)
                have c1 : decide (stLo n get (sqE a b c d e f) (min c f) (max c f) 0 0 c i < 0) = false := decide_eq_false (by omega)
                have c2 : decide (stHi n get (sqE a b c d e f) (min c f) (max c f) 0 0 c i < stLo n get (sqE a b c d e f) (min c f) (max c f) 0 0 c i) = false := decide_eq_false (by omega)
                have c3 : decide (stLo n get (sqE a b c d e f) (min c f) (max c f) 0 0 c i + 1 < stHi n get (sqE a b c d e f) (min c f) (max c f) 0 0 c i) = false := decide_eq_false (by omega)
                rw [← hq0]
                clear hq0
                simp (maxSteps := 4000000) only [go_sem, ↓op_move, ↓op_assign, ↓op_pick, ↓op_alloc, ↓op_box, ↓op_build, ↓op_buildSlice, ↓op_load, ↓op_store, ↓op_nilCheck, ↓op_bin, ↓op_un, ↓op_convert, ↓op_makeFunc, ↓op_makeSlice, ↓op_slice, ↓op_fieldAddr, ↓op_field, ↓op_indexAddr, ↓op_index, ↓op_extract, ↓op_lookup, ↓op_mapUpdate, ↓op_makeMap, ↓op_range, ↓op_next, ↓op_call, ↓op_builtin, ↓g_tt, ↓g_ff, ↓g_tf, ↓g_ft, ↓g_tnt, ↓g_tnf, ↓g_fnt, ↓g_fnf, ↓mkT_getD, hd, hk4, hk5, hk6, c1, c2, c3]
                simp only [sumI] at s4
                exact ⟨⟨by omega, by omega⟩, inK_of (by omega) (by omega), inK_of (by omega) (by omega), inK_of (by omega) (by omega), inK_of (by omega) (by omega), by omega, i + 1, hlt, by omega, ⟨rfl, rfl, by rw [Int.natCast_add]; rfl⟩, HpLe.upd (HpLe.upd (HpLe.upd HpLe.none ⟨_, by simp [updH, hk4, hk5, hk6], ObjLe.refl _⟩) ⟨_, by simp [updH, hk4, hk5, hk6], ObjLe.refl _⟩) ⟨_, by simp [updH, hk4, hk5, hk6], ObjLe.refl _⟩⟩
              · have hd : decide ((i : Int) < (n : Int)) = false := by simp; omega
                obtain rfl : i = n := by omega
                have s3 := hsb i
                have c1 : decide (rootUp (sqE a b c d e f) 1 < sumI (stLo i get (sqE a b c d e f) (min c f) (max c f) 0 0 c) i * 100) = false := decide_eq_false (by omega)
                have c2 : decide (sumI (stHi i get (sqE a b c d e f) (min c f) (max c f) 0 0 c) i * 100 < rootE (sqE a b c d e f) 1) = false := decide_eq_false (by omega)
                rw [← hq0]
                clear hq0
                simp (maxSteps := 4000000) only [go_sem, ↓op_move, ↓op_assign, ↓op_pick, ↓op_alloc, ↓op_box, ↓op_build, ↓op_buildSlice, ↓op_load, ↓op_store, ↓op_nilCheck, ↓op_bin, ↓op_un, ↓op_convert, ↓op_makeFunc, ↓op_makeSlice, ↓op_slice, ↓op_fieldAddr, ↓op_field, ↓op_indexAddr, ↓op_index, ↓op_extract, ↓op_lookup, ↓op_mapUpdate, ↓op_makeMap, ↓op_range, ↓op_next, ↓op_call, ↓op_builtin, ↓g_tt, ↓g_ff, ↓g_tf, ↓g_ft, ↓g_tnt, ↓g_tnf, ↓g_fnt, ↓g_fnf, ↓mkT_getD, hd, hp, hk4, hk5, hk6, c1, c2]
                refine ⟨inK_of (by omega) (by omega), inK_of (by omega) (by omega), ?_⟩
                refine RestT.loopF (β := Nat) [(4, 4), (28, 28), (267, 326)] (fun k => [(267, .int .i64 k)]) (fun _ => updH (updH (updH (fun _ => none) (4, 5) (.cells [.int .i64 d, .int .i64 e, .int .i64 f, .int .i64 a, .int .i64 b, .int .i64 c])) (5, 6) (.cells [.int .i64 (rootE (sqE a b c d e f) 1), .int .i64 (rootUp (sqE a b c d e f) 1)])) (6, 8) (.cells [.int .i64 (rootE (sqE a b c d e f) 1), .int .i64 (rootUp (sqE a b c d e f) 1)]))
                  (fun k => k ≤ inN get 0 4) (fun k => inN get 0 4 - k) 0 (Nat.zero_le _) ?_ (HpLe.refl _) ?_
                · simp (maxSteps := 4000000) only [go_sem, ↓op_move, ↓op_assign, ↓op_pick, ↓op_alloc, ↓op_box, ↓op_build, ↓op_buildSlice, ↓op_load, ↓op_store, ↓op_nilCheck, ↓op_bin, ↓op_un, ↓op_convert, ↓op_makeFunc, ↓op_makeSlice, ↓op_slice, ↓op_fieldAddr, ↓op_field, ↓op_indexAddr, ↓op_index, ↓op_extract, ↓op_lookup, ↓op_mapUpdate, ↓op_makeMap, ↓op_range, ↓op_next, ↓op_call, ↓op_builtin, ↓g_tt, ↓g_ff, ↓g_tf, ↓g_ft, ↓g_tnt, ↓g_tnf, ↓g_fnt, ↓g_fnf, ↓mkT_getD]
                  try exact rfl
                · intro ck3 k hck3 hk
                  have hk4 : ¬ ck3 = 4 := by omega
                  have hk5 : ¬ ck3 = 5 := by omega
                  have hk6 : ¬ ck3 = 6 := by omega
                  generalize hq0 : exC _ _ _ _ _ = gg
                  by_cases hlt : k < inN get 0 4
                  · have hd : decide ((k : Int) < (inN get 0 4 : Int)) = true := by simp; omega
                    have p1 := hpb k hlt
                    have p2 := hqb k hlt
                    have c1 : decide (qLo i get (sqE a b c d e f) (min c f) (max c f) 0 0 c k < 0) = false := decide_eq_false (by omega)
                    have c2 : decide (qHi i get (sqE a b c d e f) (min c f) (max c f) 0 0 c k < qLo i get (sqE a b c d e f) (min c f) (max c f) 0 0 c k) = false := decide_eq_false (by omega)
                    have c3 : decide (1000 < qHi i get (sqE a b c d e f) (min c f) (max c f) 0 0 c k) = false := decide_eq_false (by omega)
                    have c4 : decide (qLo i get (ech a b c d e f) 0 c 0 f 0 k < 0) = false := decide_eq_false (by omega)
                    have c5 : decide (qHi i get (ech a b c d e f) 0 c 0 f 0 k < qLo i get (ech a b c d e f) 0 c 0 f 0 k) = false := decide_eq_false (by omega)
                    have c6 : decide (1000 < qHi i get (ech a b c d e f) 0 c 0 f 0 k) = false := decide_eq_false (by omega)
                    rw [← hq0]
                    clear hq0
                    simp (maxSteps := 4000000) only [go_sem, ↓op_move, ↓op_assign, ↓op_pick, ↓op_alloc, ↓op_box, ↓op_build, ↓op_buildSlice, ↓op_load, ↓op_store, ↓op_nilCheck, ↓op_bin, ↓op_un, ↓op_convert, ↓op_makeFunc, ↓op_makeSlice, ↓op_slice, ↓op_fieldAddr, ↓op_field, ↓op_indexAddr, ↓op_index, ↓op_extract, ↓op_lookup, ↓op_mapUpdate, ↓op_makeMap, ↓op_range, ↓op_next, ↓op_call, ↓op_builtin, ↓g_tt, ↓g_ff, ↓g_tf, ↓g_ft, ↓g_tnt, ↓g_tnf, ↓g_fnt, ↓g_fnf, ↓mkT_getD, hd, hk4, hk5, hk6, c1, c2, c3, c4, c5, c6]
                    have hio : 0 ≤ (k : Int) ∧ (k : Int) < (inN get 0 4 : Int) := ⟨by omega, by omega⟩
                    exact ⟨hio, hio, hio, hio, hio, hio, hio, hio, inK_of (by omega) (by omega), by omega, k + 1, hlt, by omega, by rw [Int.natCast_add]; rfl, HpLe.refl _⟩
                  · have hd : decide ((k : Int) < (inN get 0 4 : Int)) = false := by simp; omega
                    have b1 : bentE i (revG get) d e f a b c = bentE i get a b c d e f := bent_rev a b c d e f
                    have b2 : shadE i (revG get) d e f a b c = shadE i get a b c d e f := shad_rev a b c d e f
                    cases hs : shadE i get a b c d e f
                    · rw [← hq0]
                      clear hq0
                      simp (maxSteps := 4000000) only [go_sem, ↓op_move, ↓op_assign, ↓op_pick, ↓op_alloc, ↓op_box, ↓op_build, ↓op_buildSlice, ↓op_load, ↓op_store, ↓op_nilCheck, ↓op_bin, ↓op_un, ↓op_convert, ↓op_makeFunc, ↓op_makeSlice, ↓op_slice, ↓op_fieldAddr, ↓op_field, ↓op_indexAddr, ↓op_index, ↓op_extract, ↓op_lookup, ↓op_mapUpdate, ↓op_makeMap, ↓op_range, ↓op_next, ↓op_call, ↓op_builtin, ↓g_tt, ↓g_ff, ↓g_tf, ↓g_ft, ↓g_tnt, ↓g_tnf, ↓g_fnt, ↓g_fnf, ↓mkT_getD, hd, hp, hpr, hsh, hrr, d0, hk4, hk5, hk6, o3, o5, o6, o7, b1, b2, hs, airE_rev h0, orE_0, dec_self]
                      have hrr2 := isAir_rev hrv
                      have hpr2 := hrr2.pu
                      have hownr : IsAir i (revG get) ∧ i ≤ 1000 ∧ ∀ j, j < i → inN (revG get) j 4 ≤ 1000 := ⟨hrv, by omega, hown.2.2⟩
                      have htr : IsAir i (revG get) ∧ i ≤ 1000000 := ⟨hrv, by omega⟩
                      exact ⟨hown, hair, htr, hrv, htr, hrv, hown, hair, htr, hownr, hrv, hown, hair, htr, hownr, hrv, htr, hownr, ⟨hrv, hpr2⟩, k0, k0, k0, k0, fun _ => ⟨⟨⟨hrr2, by omega⟩, .inl hpr2, hpr2⟩, ⟨hrr2, fun j hj => (rev_rev hair hj).symm⟩, VEnt.refl _⟩, fun q => by simp at q⟩
                    · have hb := shad_bent hs
                      rw [← hq0]
                      clear hq0
                      simp (maxSteps := 4000000) only [go_sem, ↓op_move, ↓op_assign, ↓op_pick, ↓op_alloc, ↓op_box, ↓op_build, ↓op_buildSlice, ↓op_load, ↓op_store, ↓op_nilCheck, ↓op_bin, ↓op_un, ↓op_convert, ↓op_makeFunc, ↓op_makeSlice, ↓op_slice, ↓op_fieldAddr, ↓op_field, ↓op_indexAddr, ↓op_index, ↓op_extract, ↓op_lookup, ↓op_mapUpdate, ↓op_makeMap, ↓op_range, ↓op_next, ↓op_call, ↓op_builtin, ↓g_tt, ↓g_ff, ↓g_tf, ↓g_ft, ↓g_tnt, ↓g_tnf, ↓g_fnt, ↓g_fnf, ↓mkT_getD, hd, hp, hpr, hsh, hrr, d0, hk4, hk5, hk6, o3, o5, o6, o7, b1, b2, hs, hb, airE_rev h0, orE_0, dec_self]
                      have hrr2 := isAir_rev hrv
                      have hpr2 := hrr2.pu
                      have hownr : IsAir i (revG get) ∧ i ≤ 1000 ∧ ∀ j, j < i → inN (revG get) j 4 ≤ 1000 := ⟨hrv, by omega, hown.2.2⟩
                      have htr : IsAir i (revG get) ∧ i ≤ 1000000 := ⟨hrv, by omega⟩
                      exact ⟨hown, hair, htr, hrv, htr, hrv, hown, hair, htr, hownr, hrv, hown, hair, htr, hownr, hrv, htr, hownr, ⟨hrv, hpr2⟩, k0, k0, k0, k0, fun _ => ⟨⟨⟨hrr2, by omega⟩, .inl hpr2, hpr2⟩, ⟨hrr2, fun j hj => (rev_rev hair hj).symm⟩, VEnt.refl _⟩, fun q => by simp at q⟩
      · have d1 : decide (pathE a b c d e f = 0) = false := decide_eq_false h1
        simp only [Proofs.Tryz.f9]
        rw [enter_mkT (Nat.le_of_ble_eq_true rfl)]
        simp (maxSteps := 4000000) only [go_sem, ↓op_move, ↓op_assign, ↓op_pick, ↓op_alloc, ↓op_box, ↓op_build, ↓op_buildSlice, ↓op_load, ↓op_store, ↓op_nilCheck, ↓op_bin, ↓op_un, ↓op_convert, ↓op_makeFunc, ↓op_makeSlice, ↓op_slice, ↓op_fieldAddr, ↓op_field, ↓op_indexAddr, ↓op_index, ↓op_extract, ↓op_lookup, ↓op_mapUpdate, ↓op_makeMap, ↓op_range, ↓op_next, ↓op_call, ↓op_builtin, ↓g_tt, ↓g_ff, ↓g_tf, ↓g_ft, ↓g_tnt, ↓g_tnf, ↓g_fnt, ↓g_fnf, ↓mkT_getD, hp, hsh, d0, d1]
        exact ⟨hair, hair, VEnt.refl _⟩
    · have d0 : decide (airE n get = 0) = false := decide_eq_false h0
      simp only [Proofs.Tryz.f9]
      rw [enter_mkT (Nat.le_of_ble_eq_true rfl)]
      simp (maxSteps := 4000000) only [go_sem, ↓op_move, ↓op_assign, ↓op_pick, ↓op_alloc, ↓op_box, ↓op_build, ↓op_buildSlice, ↓op_load, ↓op_store, ↓op_nilCheck, ↓op_bin, ↓op_un, ↓op_convert, ↓op_makeFunc, ↓op_makeSlice, ↓op_slice, ↓op_fieldAddr, ↓op_field, ↓op_indexAddr, ↓op_index, ↓op_extract, ↓op_lookup, ↓op_mapUpdate, ↓op_makeMap, ↓op_range, ↓op_next, ↓op_call, ↓op_builtin, ↓g_tt, ↓g_ff, ↓g_tf, ↓g_ft, ↓g_tnt, ↓g_tnf, ↓g_fnt, ↓g_fnf, ↓mkT_getD, hp, hsh, d0]
      exact ⟨hair, hair, VEnt.refl _⟩
end Go.Fly.Tryz
