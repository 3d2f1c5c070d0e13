/- The law on layers that are split. -/
import Derived.Test.YtmlknpghkclffaaGreatDoorSYAHG
import Derived.Test.YtmlknpghkclffaaGreatDoorBB
set_option linter.unusedSimpArgs false
set_option linter.unusedVariables false
set_option maxRecDepth 100000
set_option maxHeartbeats 8000000
namespace Go.Fly.Tryz
open Go

theorem wParts_ok : Holds Proofs.Tryz.prog G0 10 airPartsC := by
  refine Holds.of_exC D10 Proofs.Tryz.func10 rfl foll (by kernel_rfl) (tab [(15, awakeC), (16, shortAirC), (17, airC), (18, lat3C), (19, ownAirC), (20, splitC), (30, toPathRC), (31, steps3C), (32, pathC), (63, sameIvC), (64, toldC), (iceKey 4, iceC), (iceKey 5, iceC)]) (tab_ok ⟨lAwake_ok, rAirShort_ok, rAir_ok, gLat_ok, lOwn_ok, gSplit_ok, lPath_ok, gSteps3_ok, rPth_ok, rSame_ok, lTold_ok, ice_holds, ice_holds, trivial⟩) G0_ok fun k0 rl args hpu hpre => ?_
  unfold airPartsC at hpre ⊢
  split at hpre
  rotate_left
  · exact hpre.elim
  rename_i n sz get a b c d e f u v
  obtain ⟨rfl, hair, hu, hv⟩ := hpre
  have hp := hair.pu
  have hn := hair.1
  by_cases hn7 : n ≤ 7
  · have d7 : decide ((7 : Int) < (n : Int)) = false := decide_eq_false (by omega)
    cases hsh : shortAirB n get
    · simp only [Proofs.Tryz.f10]
      rw [enter_mkT (Nat.le_of_ble_eq_true rfl)]
      simp (maxSteps := 4000000) only [go_sem, ↓op_move, ↓op_assign, ↓op_pick, ↓op_alloc, ↓op_box, ↓op_build, ↓op_buildSlice, ↓op_load, ↓op_store, ↓op_nilCheck, ↓op_bin, ↓op_un, ↓op_convert, ↓op_makeFunc, ↓op_makeSlice, ↓op_slice, ↓op_fieldAddr, ↓op_field, ↓op_indexAddr, ↓op_index, ↓op_extract, ↓op_lookup, ↓op_mapUpdate, ↓op_makeMap, ↓op_range, ↓op_next, ↓op_call, ↓op_builtin, ↓g_tt, ↓g_ff, ↓g_tf, ↓g_ft, ↓g_tnt, ↓g_tnf, ↓g_fnt, ↓g_fnf, ↓mkT_getD, hp, hsh, d7]
      exact ⟨hair, VEnt.refl _⟩
    · by_cases h0 : airE n get = 0
      · have d0 : decide (airE n get = 0) = true := decide_eq_true h0
        by_cases h1 : pathE a b c d e f = 0
        · have d1 : decide (pathE a b c d e f = 0) = true := decide_eq_true h1
          obtain ⟨hn9, hb9⟩ := short_use hsh
          have hown : IsAir n get ∧ n ≤ 1000 ∧ ∀ i, i < n → inN get i 4 ≤ 1000 := ⟨hair, by omega, fun i hi => by have := hb9 i hi; omega⟩
          have hce : checkE n get a b c d e f = 0 := firstL_zero.2 fun z hz => by
            simp only [List.mem_cons, List.not_mem_nil, or_false] at hz
            rcases hz with rfl | rfl
            · exact h0
            · exact h1
          have hpath := (checkE_zero.1 hce).2
          have hok := airE_ok h0
          have ub := tmod_bd (a := u) (b := 10000) hu.1 (by decide)
          have vb := tmod_bd (a := v) (b := 10001) hv.1 (by decide)
          have hs1 : spl1 n get (1 + u.tmod 10000) = 0 := firstL_zero.2 fun z hz => by
            simp only [List.mem_cons, List.not_mem_nil, or_false] at hz
            rcases hz with rfl | rfl
            · exact h0
            · exact rng_zero.2 ⟨by omega, by omega⟩
          obtain ⟨H, hH⟩ : ∃ H, 1 + u.tmod 10000 = H := ⟨_, rfl⟩
          rw [hH] at hs1
          have hHb : 1 ≤ H ∧ H ≤ 10000 := by omega
          by_cases h2 : splE n get H = 0
          · have s := spl_of hs1 h2
            have oS : ∀ A B : V, (if splE n get H ≠ 0 then A else B) = B := fun A B => if_neg (by simp [h2])
            have hv2 : IsAir 2 (splV n get H) := ⟨by omega, fun k hk => ⟨rfl, (hair.2 _ s.lt).2⟩⟩
            have hR : IsAir (n + 1) (repG get (splV n get H) (splI n get H)) := isAir_rep hair hv2 (by omega) s.lt
            have hRv : airE (n + 1) (repG get (splV n get H) (splI n get H)) = 0 := s.valid h0 hn7
            have hRs : shortAirB (n + 1) (repG get (splV n get H) (splI n get H)) = true := s.short hsh hn7
            have hsq := sqE_bd hpath
            obtain ⟨⟨q1, q2, q3⟩, ⟨q4, q5, q6⟩, q7⟩ := id hpath
            have hsums := s.sums (sq := sqE a b c d e f) (z0 := min c f) (z1 := max c f) (flat := c) hsq.1 (by omega) (by omega)
            have hsrc := s.src
            have hsame := fun z => s.same_at (z := z)
            have hb1 : ∀ i, i < n → 0 ≤ botE get i ∧ 0 ≤ topE n get i := fun i hi => by
              have h1 := bot_bd hok (show i ≤ n by omega)
              have h2 := top_bd hok hi
              omega
            have hokR := airE_ok hRv
            have hb2 : ∀ i, i < n + 1 → 0 ≤ botE (repG get (splV n get H) (splI n get H)) i ∧ 0 ≤ topE (n + 1) (repG get (splV n get H) (splI n get H)) i := fun i hi => by
              have h1 := bot_bd hokR (show i ≤ n + 1 by omega)
              have h2 := top_bd hokR hi
              omega
            have e1 := sumI_congr (n := n) (f := stLo n get (sqE a b c d e f) (min c f) (max c f) 0 0 c) (g := stepLo n get (sqE a b c d e f) (min c f) (max c f) c) fun i hi => stLo_one (hb1 i hi).1 (hb1 i hi).2
            have e2 := sumI_congr (n := n) (f := stHi n get (sqE a b c d e f) (min c f) (max c f) 0 0 c) (g := stepHi n get (sqE a b c d e f) (min c f) (max c f) c) fun i hi => stHi_one (hb1 i hi).1 (hb1 i hi).2
            have e3 := sumI_congr (n := n + 1) (f := stLo (n + 1) (repG get (splV n get H) (splI n get H)) (sqE a b c d e f) (min c f) (max c f) 0 0 c) (g := stepLo (n + 1) (repG get (splV n get H) (splI n get H)) (sqE a b c d e f) (min c f) (max c f) c) fun i hi => stLo_one (hb2 i hi).1 (hb2 i hi).2
            have e4 := sumI_congr (n := n + 1) (f := stHi (n + 1) (repG get (splV n get H) (splI n get H)) (sqE a b c d e f) (min c f) (max c f) 0 0 c) (g := stepHi (n + 1) (repG get (splV n get H) (splI n get H)) (sqE a b c d e f) (min c f) (max c f) c) fun i hi => stHi_one (hb2 i hi).1 (hb2 i hi).2
            rw [← e1, ← e2, ← e3, ← e4] at hsums
            clear e1 e2 e3 e4 hb1 hb2
            have hbd := fun m => sum_bd (n := n) (get := get) (flat := c) (sq := sqE a b c d e f) (y0 := 0) (y1 := 0) ⟨hsq.1, by omega⟩ (show min c f ≤ max c f by omega) (Int.le_refl 0) m
            have hbd2 := fun m => sum_bd (n := n + 1) (get := repG get (splV n get H) (splI n get H)) (flat := c) (sq := sqE a b c d e f) (y0 := 0) (y1 := 0) ⟨hsq.1, by omega⟩ (show min c f ≤ max c f by omega) (Int.le_refl 0) m
            obtain ⟨R, hRd⟩ : ∃ R, repG get (splV n get H) (splI n get H) = R := ⟨_, rfl⟩
            simp only [splW, hRd] at hR hRv hRs hsums hsrc hsame hokR hbd2
            have hpR := hR.pu
            have hcR : checkE (n + 1) R a b c d e f = 0 := checkE_zero.2 ⟨hRv, hpath⟩
            have dR : decide (airE (n + 1) R = 0) = true := decide_eq_true hRv
            have o1 := orE_noA hce
            have o2 := orE_noA hcR
            have dl : decide (((n + 1 : Nat) : Int) = (n : Int) + 1) = true := decide_eq_true (by omega)
            have hownR : IsAir (n + 1) R ∧ n ≤ 999 ∧ ∀ i, i < n + 1 → inN R i 4 ≤ 1000 := ⟨hR, by omega, fun i hi => by have := (short_use hRs).2 i hi; omega⟩
            obtain ⟨L, hL⟩ : ∃ L : Nat → Int, stLo n get (sqE a b c d e f) (min c f) (max c f) 0 0 c = L := ⟨_, rfl⟩
            obtain ⟨M, hM⟩ : ∃ L : Nat → Int, stHi n get (sqE a b c d e f) (min c f) (max c f) 0 0 c = L := ⟨_, rfl⟩
            obtain ⟨L2, hL2⟩ : ∃ L : Nat → Int, stLo (n + 1) R (sqE a b c d e f) (min c f) (max c f) 0 0 c = L := ⟨_, rfl⟩
            obtain ⟨M2, hM2⟩ : ∃ L : Nat → Int, stHi (n + 1) R (sqE a b c d e f) (min c f) (max c f) 0 0 c = L := ⟨_, rfl⟩
            simp only [hL, hM, hL2, hM2] at hsums hbd hbd2
            have k0 : inK .i64 0 := inK_of (by decide) (by decide)
            have htR : IsAir (n + 1) R ∧ n ≤ 999999 := ⟨hR, by omega⟩
            simp only [Proofs.Tryz.f10]
            rw [enter_mkT (Nat.le_of_ble_eq_true rfl)]
            simp (maxSteps := 4000000) only [go_sem, ↓op_move, ↓op_assign, ↓op_pick, ↓op_alloc, ↓op_box, ↓op_build, ↓op_buildSlice, ↓op_load, ↓op_store, ↓op_nilCheck, ↓op_bin, ↓op_un, ↓op_convert, ↓op_makeFunc, ↓op_makeSlice, ↓op_slice, ↓op_fieldAddr, ↓op_field, ↓op_indexAddr, ↓op_index, ↓op_extract, ↓op_lookup, ↓op_mapUpdate, ↓op_makeMap, ↓op_range, ↓op_next, ↓op_call, ↓op_builtin, ↓g_tt, ↓g_ff, ↓g_tf, ↓g_ft, ↓g_tnt, ↓g_tnf, ↓g_fnt, ↓g_fnf, ↓mkT_getD, hp, hpR, hsh, d7, d0, d1, hH, oS, hRd, dR, hRs, o1, o2, hL, hM, hL2, hM2, dl, dec_self, w16, iteT]
            refine ⟨hair, hair, inK_of (by omega) (by omega), inK_of (by omega) (by omega), hown, ⟨hair, by omega⟩, inK_of (by omega) (by omega), htR, hR, htR, hR, hown, hair, htR, hownR, hR, ?_⟩
            refine RestT.loopF (β := Nat) [(17, 17), (129, 145)] (fun i => [(129, .int .i64 i)]) (fun i => updH (updH (fun _ => none) (11, 14) (.cells [.int .i64 (sumI L i), .int .i64 (sumI M i)])) (11, 15) (.cells [.int .i64 0, .int .i64 0]))
              (fun i => i ≤ n) (fun i => n - i) 0 (Nat.zero_le _) ?_ (HpLe.refl _) ?_
            · simp (maxSteps := 4000000) only [go_sem, ↓op_move, ↓op_assign, ↓op_pick, ↓op_alloc, ↓op_box, ↓op_build, ↓op_buildSlice, ↓op_load, ↓op_store, ↓op_nilCheck, ↓op_bin, ↓op_un, ↓op_convert, ↓op_makeFunc, ↓op_makeSlice, ↓op_slice, ↓op_fieldAddr, ↓op_field, ↓op_indexAddr, ↓op_index, ↓op_extract, ↓op_lookup, ↓op_mapUpdate, ↓op_makeMap, ↓op_range, ↓op_next, ↓op_call, ↓op_builtin, ↓g_tt, ↓g_ff, ↓g_tf, ↓g_ft, ↓g_tnt, ↓g_tnf, ↓g_fnt, ↓g_fnf, ↓mkT_getD]
              try exact rfl
            · intro ck i hck hi
              have hk1 : ¬ ck = 11 := by omega
              generalize hq0 : exC _ _ _ _ _ = gg
              by_cases hlt : i < n
              · have hd : decide ((i : Int) < (n : Int)) = true := by simp; omega
                have s1 := hbd (i + 1)
                simp only [sumI] at s1
                rw [← hq0]
                clear hq0
                simp (maxSteps := 4000000) only [go_sem, ↓op_move, ↓op_assign, ↓op_pick, ↓op_alloc, ↓op_box, ↓op_build, ↓op_buildSlice, ↓op_load, ↓op_store, ↓op_nilCheck, ↓op_bin, ↓op_un, ↓op_convert, ↓op_makeFunc, ↓op_makeSlice, ↓op_slice, ↓op_fieldAddr, ↓op_field, ↓op_indexAddr, ↓op_index, ↓op_extract, ↓op_lookup, ↓op_mapUpdate, ↓op_makeMap, ↓op_range, ↓op_next, ↓op_call, ↓op_builtin, ↓g_tt, ↓g_ff, ↓g_tf, ↓g_ft, ↓g_tnt, ↓g_tnf, ↓g_fnt, ↓g_fnf, ↓mkT_getD, hd, hk1]
                exact ⟨⟨by omega, by omega⟩, inK_of (by omega) (by omega), inK_of (by omega) (by omega), inK_of (by omega) (by omega), by omega, i + 1, hlt, by omega, by rw [Int.natCast_add]; rfl, HpLe.upd (HpLe.upd HpLe.none ⟨_, by simp [updH, hk1]; exact ⟨rfl, rfl⟩, ObjLe.refl _⟩) ⟨_, by simp [updH, hk1], ObjLe.refl _⟩⟩
              · have hd : decide ((i : Int) < (n : Int)) = false := by simp; omega
                obtain rfl : i = n := by omega
                rw [← hq0]
                clear hq0
                simp (maxSteps := 4000000) only [go_sem, ↓op_move, ↓op_assign, ↓op_pick, ↓op_alloc, ↓op_box, ↓op_build, ↓op_buildSlice, ↓op_load, ↓op_store, ↓op_nilCheck, ↓op_bin, ↓op_un, ↓op_convert, ↓op_makeFunc, ↓op_makeSlice, ↓op_slice, ↓op_fieldAddr, ↓op_field, ↓op_indexAddr, ↓op_index, ↓op_extract, ↓op_lookup, ↓op_mapUpdate, ↓op_makeMap, ↓op_range, ↓op_next, ↓op_call, ↓op_builtin, ↓g_tt, ↓g_ff, ↓g_tf, ↓g_ft, ↓g_tnt, ↓g_tnf, ↓g_fnt, ↓g_fnf, ↓mkT_getD, hd, hp, hpR, hk1]
                refine RestT.loopF (β := Nat) [(19, 19), (148, 164)] (fun j => [(148, .int .i64 j)]) (fun j => updH (updH (fun _ => none) (11, 14) (.cells [.int .i64 (sumI L i), .int .i64 (sumI M i)])) (11, 15) (.cells [.int .i64 (sumI L2 j), .int .i64 (sumI M2 j)]))
                  (fun j => j ≤ i + 1) (fun j => i + 1 - j) 0 (Nat.zero_le _) ?_ (HpLe.refl _) ?_
                · simp (maxSteps := 4000000) only [go_sem, ↓op_move, ↓op_assign, ↓op_pick, ↓op_alloc, ↓op_box, ↓op_build, ↓op_buildSlice, ↓op_load, ↓op_store, ↓op_nilCheck, ↓op_bin, ↓op_un, ↓op_convert, ↓op_makeFunc, ↓op_makeSlice, ↓op_slice, ↓op_fieldAddr, ↓op_field, ↓op_indexAddr, ↓op_index, ↓op_extract, ↓op_lookup, ↓op_mapUpdate, ↓op_makeMap, ↓op_range, ↓op_next, ↓op_call, ↓op_builtin, ↓g_tt, ↓g_ff, ↓g_tf, ↓g_ft, ↓g_tnt, ↓g_tnf, ↓g_fnt, ↓g_fnf, ↓mkT_getD]
                  try exact rfl
                · intro ck2 j hck2 hj
                  have hk1 : ¬ ck2 = 11 := by omega
                  generalize hq0 : exC _ _ _ _ _ = gg
                  by_cases hlt : j < i + 1
                  · have hd : decide ((j : Int) < ((i + 1 : Nat) : Int)) = true := by simp; omega
                    have s1 := hbd2 (j + 1)
                    simp only [sumI] at s1
                    rw [← hq0]
                    clear hq0
                    simp (maxSteps := 4000000) only [go_sem, ↓op_move, ↓op_assign, ↓op_pick, ↓op_alloc, ↓op_box, ↓op_build, ↓op_buildSlice, ↓op_load, ↓op_store, ↓op_nilCheck, ↓op_bin, ↓op_un, ↓op_convert, ↓op_makeFunc, ↓op_makeSlice, ↓op_slice, ↓op_fieldAddr, ↓op_field, ↓op_indexAddr, ↓op_index, ↓op_extract, ↓op_lookup, ↓op_mapUpdate, ↓op_makeMap, ↓op_range, ↓op_next, ↓op_call, ↓op_builtin, ↓g_tt, ↓g_ff, ↓g_tf, ↓g_ft, ↓g_tnt, ↓g_tnf, ↓g_fnt, ↓g_fnf, ↓mkT_getD, hd, hk1]
                    exact ⟨⟨by omega, by omega⟩, inK_of (by omega) (by omega), inK_of (by omega) (by omega), inK_of (by omega) (by omega), by omega, j + 1, hlt, by omega, by rw [Int.natCast_add]; rfl, HpLe.upd (HpLe.upd HpLe.none ⟨_, by simp [updH, hk1], ObjLe.refl _⟩) ⟨_, by simp [updH, hk1]; exact ⟨rfl, rfl⟩, ObjLe.refl _⟩⟩
                  · have hd : decide ((j : Int) < ((i + 1 : Nat) : Int)) = false := by simp; omega
                    obtain rfl : j = i + 1 := by omega
                    have s1 := hbd i
                    have s2 := hbd2 (i + 1)
                    have c1 : decide (1 < max (max (max (sumI L i - sumI L2 (i + 1)) (sumI L2 (i + 1) - sumI L i)) (sumI M i - sumI M2 (i + 1))) (sumI M2 (i + 1) - sumI M i)) = false := decide_eq_false (by omega)
                    rw [← hq0]
                    clear hq0
                    simp (maxSteps := 4000000) only [go_sem, ↓op_move, ↓op_assign, ↓op_pick, ↓op_alloc, ↓op_box, ↓op_build, ↓op_buildSlice, ↓op_load, ↓op_store, ↓op_nilCheck, ↓op_bin, ↓op_un, ↓op_convert, ↓op_makeFunc, ↓op_makeSlice, ↓op_slice, ↓op_fieldAddr, ↓op_field, ↓op_indexAddr, ↓op_index, ↓op_extract, ↓op_lookup, ↓op_mapUpdate, ↓op_makeMap, ↓op_range, ↓op_next, ↓op_call, ↓op_builtin, ↓g_tt, ↓g_ff, ↓g_tf, ↓g_ft, ↓g_tnt, ↓g_tnf, ↓g_fnt, ↓g_fnf, ↓mkT_getD, hd, hp, hpR, hk1, w16, iteT, c1]
                    refine ⟨inK_of (by omega) (by omega), inK_of (by omega) (by omega), inK_of (by omega) (by omega), inK_of (by omega) (by omega), inK_of (by omega) (by omega), inK_of (by omega) (by omega), ?_⟩
                    refine RestT.loopF (β := Nat) [(6, 6), (21, 26), (28, 28), (196, 312)] (fun t => [(196, .int .i64 t)]) (fun _ => updH (updH (fun _ => none) (11, 14) (.cells [.int .i64 (sumI L i), .int .i64 (sumI M i)])) (11, 15) (.cells [.int .i64 (sumI L2 (i + 1)), .int .i64 (sumI M2 (i + 1))]))
                      (fun t => t ≤ 4) (fun t => 4 - t) 0 (by omega) ?_ (HpLe.refl _) ?_
                    · simp (maxSteps := 4000000) only [go_sem, ↓op_move, ↓op_assign, ↓op_pick, ↓op_alloc, ↓op_box, ↓op_build, ↓op_buildSlice, ↓op_load, ↓op_store, ↓op_nilCheck, ↓op_bin, ↓op_un, ↓op_convert, ↓op_makeFunc, ↓op_makeSlice, ↓op_slice, ↓op_fieldAddr, ↓op_field, ↓op_indexAddr, ↓op_index, ↓op_extract, ↓op_lookup, ↓op_mapUpdate, ↓op_makeMap, ↓op_range, ↓op_next, ↓op_call, ↓op_builtin, ↓g_tt, ↓g_ff, ↓g_tf, ↓g_ft, ↓g_tnt, ↓g_tnf, ↓g_fnt, ↓g_fnf, ↓mkT_getD]
                      try exact rfl
                    · intro ck3 t hck3 ht
                      generalize hq0 : exC _ _ _ _ _ = gg
                      by_cases hlt : t < 4
                      · have hd : decide ((t : Int) < 4) = true := by simp; omega
                        obtain ⟨z, hz, hz0, hz1⟩ : ∃ z : Int, ([V.int .i64 0, V.int .i64 H, V.int .i64 (max 0 (H - 1)), V.int .i64 (v.tmod 10001)])[t]? = some (V.int .i64 z) ∧ 0 ≤ z ∧ z ≤ 10000 := by
                          have h3 : t = 0 ∨ t = 1 ∨ t = 2 ∨ t = 3 := by omega
                          rcases h3 with rfl | rfl | rfl | rfl
                          · exact ⟨_, rfl, by omega, by omega⟩
                          · exact ⟨_, rfl, by omega, by omega⟩
                          · exact ⟨_, rfl, by omega, by omega⟩
                          · exact ⟨_, rfl, by omega, by omega⟩
                        obtain ⟨i0, j0, hi0, hj0, ea, eb, hsr, hbo, hto⟩ := hsame z hz0 hz1
                        have oz1 := orE_noA (show latE i get z = 0 from firstL_zero.2 fun w hw => by
                          simp only [List.mem_cons, List.not_mem_nil, or_false] at hw
                          rcases hw with rfl | rfl
                          · exact h0
                          · exact rng_zero.2 ⟨by omega, by omega⟩)
                        have oz2 := orE_noA (show latE (i + 1) R z = 0 from firstL_zero.2 fun w hw => by
                          simp only [List.mem_cons, List.not_mem_nil, or_false] at hw
                          rcases hw with rfl | rfl
                          · exact hRv
                          · exact rng_zero.2 ⟨by omega, by omega⟩)
                        obtain ⟨hg, hiv⟩ := hair.2 i0 hi0
                        have hpi := hiv.pu
                        have hRow : R j0 = [.int .i64 (cell R j0 0), .int .i64 (cell get i0 1), .int .i64 (cell get i0 2), .int .i64 (cell get i0 3), .sl (inN get i0 4) 2 (inG get i0 4)] := by
                          have h4 := (hR.2 j0 hj0).1
                          obtain ⟨c1, c2, c3⟩ := hsrc j0
                          rw [c1 1 (by simp), c1 2 (by simp), c1 3 (by simp), c2, c3, hsr] at h4
                          exact h4
                        have dz1 : decide ((i0 : Int) < 0) = false := decide_eq_false (by omega)
                        have dz2 : decide ((i : Int) ≤ (i0 : Int)) = false := decide_eq_false (by omega)
                        have dz3 : decide ((j0 : Int) < 0) = false := decide_eq_false (by omega)
                        have dz4 : decide (((i + 1 : Nat) : Int) ≤ (j0 : Int)) = false := decide_eq_false (by omega)
                        rw [← hq0]
                        clear hq0
                        simp (maxSteps := 4000000) only [go_sem, ↓op_move, ↓op_assign, ↓op_pick, ↓op_alloc, ↓op_box, ↓op_build, ↓op_buildSlice, ↓op_load, ↓op_store, ↓op_nilCheck, ↓op_bin, ↓op_un, ↓op_convert, ↓op_makeFunc, ↓op_makeSlice, ↓op_slice, ↓op_fieldAddr, ↓op_field, ↓op_indexAddr, ↓op_index, ↓op_extract, ↓op_lookup, ↓op_mapUpdate, ↓op_makeMap, ↓op_range, ↓op_next, ↓op_call, ↓op_builtin, ↓g_tt, ↓g_ff, ↓g_tf, ↓g_ft, ↓g_tnt, ↓g_tnf, ↓g_fnt, ↓g_fnf, ↓mkT_getD, hd, hz, hp, hpR, hpi, oz1, oz2, ea, eb, hg, hRow, dz1, dz2, dz3, dz4, sameG_self, dec_self, Int.toNat_natCast, Nat.mul_one, Option.map_some, Nat.sub_zero, Nat.zero_add]
                        have hia : 0 ≤ (i0 : Int) ∧ (i0 : Int) < (i : Int) := ⟨by omega, by omega⟩
                        have hja : 0 ≤ (j0 : Int) ∧ (j0 : Int) < ((i + 1 : Nat) : Int) := ⟨by omega, by omega⟩
                        refine ⟨⟨by omega, by omega⟩, hown, hair, htR, hownR, hR, hia, hja, hia, hja, hia, hja, hiv, ⟨by omega, by omega⟩, ?_⟩
                        refine RestT.loopF (β := Nat) [(26, 26), (28, 28), (282, 290)] (fun m => [(26, .int .i64 (botE get m)), (282, .int .i64 m)]) (fun _ => updH (updH (fun _ => none) (11, 14) (.cells [.int .i64 (sumI L i), .int .i64 (sumI M i)])) (11, 15) (.cells [.int .i64 (sumI L2 (i + 1)), .int .i64 (sumI M2 (i + 1))]))
                          (fun m => m ≤ i0) (fun m => i0 - m) 0 (Nat.zero_le _) ?_ (HpLe.refl _) ?_
                        · simp (maxSteps := 4000000) only [go_sem, ↓op_move, ↓op_assign, ↓op_pick, ↓op_alloc, ↓op_box, ↓op_build, ↓op_buildSlice, ↓op_load, ↓op_store, ↓op_nilCheck, ↓op_bin, ↓op_un, ↓op_convert, ↓op_makeFunc, ↓op_makeSlice, ↓op_slice, ↓op_fieldAddr, ↓op_field, ↓op_indexAddr, ↓op_index, ↓op_extract, ↓op_lookup, ↓op_mapUpdate, ↓op_makeMap, ↓op_range, ↓op_next, ↓op_call, ↓op_builtin, ↓g_tt, ↓g_ff, ↓g_tf, ↓g_ft, ↓g_tnt, ↓g_tnf, ↓g_fnt, ↓g_fnf, ↓mkT_getD]
                          try exact rfl
                        · intro ck4 m hck4 hm
                          have hk1 : ¬ ck4 = 11 := by omega
                          generalize hq0 : exC _ _ _ _ _ = gg
                          by_cases hlt2 : m < i0
                          · have hd2 : decide ((m : Int) < (i0 : Int)) = true := by simp; omega
                            obtain ⟨hgm, hivm⟩ := hair.2 m (by omega)
                            have hpm := hivm.pu
                            have w1 := bot_bd hok (show m + 1 ≤ i by omega)
                            simp only [botE] at w1
                            rw [← hq0]
                            clear hq0
                            simp (maxSteps := 4000000) only [go_sem, ↓op_move, ↓op_assign, ↓op_pick, ↓op_alloc, ↓op_box, ↓op_build, ↓op_buildSlice, ↓op_load, ↓op_store, ↓op_nilCheck, ↓op_bin, ↓op_un, ↓op_convert, ↓op_makeFunc, ↓op_makeSlice, ↓op_slice, ↓op_fieldAddr, ↓op_field, ↓op_indexAddr, ↓op_index, ↓op_extract, ↓op_lookup, ↓op_mapUpdate, ↓op_makeMap, ↓op_range, ↓op_next, ↓op_call, ↓op_builtin, ↓g_tt, ↓g_ff, ↓g_tf, ↓g_ft, ↓g_tnt, ↓g_tnf, ↓g_fnt, ↓g_fnf, ↓mkT_getD, hd2, hp, hpm, hgm, hk1, Nat.zero_add]
                            exact ⟨⟨by omega, by omega⟩, inK_of (by omega) (by omega), inK_of (by omega) (by omega), by omega, m + 1, hlt2, by omega, ⟨rfl, by rw [Int.natCast_add]; rfl⟩, HpLe.upd (HpLe.upd HpLe.none ⟨_, by simp [updH, hk1], ObjLe.refl _⟩) ⟨_, by simp [updH, hk1], ObjLe.refl _⟩⟩
                          · have hd2 : decide ((m : Int) < (i0 : Int)) = false := by simp; omega
                            obtain rfl : m = i0 := by omega
                            have e1 : decide (z < botE get m) = false := decide_eq_false (by omega)
                            have w1 := bot_bd hok (show m + 1 ≤ i by omega)
                            simp only [botE] at w1
                            by_cases hla : (m : Int) < (i : Int) - 1
                            · have e2 : decide ((m : Int) < (i : Int) - 1) = true := decide_eq_true hla
                              have e3 : decide (botE get m + cell get m 0 ≤ z) = false := decide_eq_false (by have := hto hla; omega)
                              rw [← hq0]
                              clear hq0
                              simp (maxSteps := 4000000) only [go_sem, ↓op_move, ↓op_assign, ↓op_pick, ↓op_alloc, ↓op_box, ↓op_build, ↓op_buildSlice, ↓op_load, ↓op_store, ↓op_nilCheck, ↓op_bin, ↓op_un, ↓op_convert, ↓op_makeFunc, ↓op_makeSlice, ↓op_slice, ↓op_fieldAddr, ↓op_field, ↓op_indexAddr, ↓op_index, ↓op_extract, ↓op_lookup, ↓op_mapUpdate, ↓op_makeMap, ↓op_range, ↓op_next, ↓op_call, ↓op_builtin, ↓g_tt, ↓g_ff, ↓g_tf, ↓g_ft, ↓g_tnt, ↓g_tnf, ↓g_fnt, ↓g_fnf, ↓mkT_getD, hd2, hp, hg, hk1, e1, e2, e3]
                              exact ⟨inK_of (by omega) (by omega), ⟨by omega, by omega⟩, inK_of (by omega) (by omega), inK_of (by omega) (by omega), by omega, t + 1, by omega, by omega, by rw [Int.natCast_add]; rfl, HpLe.refl _⟩
                            · have e2 : decide ((m : Int) < (i : Int) - 1) = false := decide_eq_false hla
                              rw [← hq0]
                              clear hq0
                              simp (maxSteps := 4000000) only [go_sem, ↓op_move, ↓op_assign, ↓op_pick, ↓op_alloc, ↓op_box, ↓op_build, ↓op_buildSlice, ↓op_load, ↓op_store, ↓op_nilCheck, ↓op_bin, ↓op_un, ↓op_convert, ↓op_makeFunc, ↓op_makeSlice, ↓op_slice, ↓op_fieldAddr, ↓op_field, ↓op_indexAddr, ↓op_index, ↓op_extract, ↓op_lookup, ↓op_mapUpdate, ↓op_makeMap, ↓op_range, ↓op_next, ↓op_call, ↓op_builtin, ↓g_tt, ↓g_ff, ↓g_tf, ↓g_ft, ↓g_tnt, ↓g_tnf, ↓g_fnt, ↓g_fnf, ↓mkT_getD, hd2, hp, hg, hk1, e1, e2]
                              exact ⟨inK_of (by omega) (by omega), inK_of (by omega) (by omega), by omega, t + 1, by omega, by omega, by rw [Int.natCast_add]; rfl, HpLe.refl _⟩
                      · have hd : decide ((t : Int) < 4) = false := by simp; omega
                        rw [← hq0]
                        clear hq0
                        simp (maxSteps := 4000000) only [go_sem, ↓op_move, ↓op_assign, ↓op_pick, ↓op_alloc, ↓op_box, ↓op_build, ↓op_buildSlice, ↓op_load, ↓op_store, ↓op_nilCheck, ↓op_bin, ↓op_un, ↓op_convert, ↓op_makeFunc, ↓op_makeSlice, ↓op_slice, ↓op_fieldAddr, ↓op_field, ↓op_indexAddr, ↓op_index, ↓op_extract, ↓op_lookup, ↓op_mapUpdate, ↓op_makeMap, ↓op_range, ↓op_next, ↓op_call, ↓op_builtin, ↓g_tt, ↓g_ff, ↓g_tf, ↓g_ft, ↓g_tnt, ↓g_tnf, ↓g_fnt, ↓g_fnf, ↓mkT_getD, hd, hp, hpR]
                        exact VEnt.refl _
          · have dS : decide (splE n get H = 0) = false := decide_eq_false h2
            have oS : ∀ A B : V, (if splE n get H ≠ 0 then A else B) = A := fun A B => if_pos h2
            rcases splE_cases hs1 hn7 h2 with h9 | h4
            · simp only [Proofs.Tryz.f10]
              rw [enter_mkT (Nat.le_of_ble_eq_true rfl)]
              simp (maxSteps := 4000000) only [go_sem, ↓op_move, ↓op_assign, ↓op_pick, ↓op_alloc, ↓op_box, ↓op_build, ↓op_buildSlice, ↓op_load, ↓op_store, ↓op_nilCheck, ↓op_bin, ↓op_un, ↓op_convert, ↓op_makeFunc, ↓op_makeSlice, ↓op_slice, ↓op_fieldAddr, ↓op_field, ↓op_indexAddr, ↓op_index, ↓op_extract, ↓op_lookup, ↓op_mapUpdate, ↓op_makeMap, ↓op_range, ↓op_next, ↓op_call, ↓op_builtin, ↓g_tt, ↓g_ff, ↓g_tf, ↓g_ft, ↓g_tnt, ↓g_tnf, ↓g_fnt, ↓g_fnf, ↓mkT_getD, hp, hsh, d7, d0, d1, hH, oS, dS, h9, dec_self, w16, iteT]
              exact ⟨hair, hair, inK_of (by omega) (by omega), inK_of (by omega) (by omega), hown, ⟨hair, by omega⟩, VEnt.refl _⟩
            · simp only [Proofs.Tryz.f10]
              rw [enter_mkT (Nat.le_of_ble_eq_true rfl)]
              simp (maxSteps := 4000000) only [go_sem, ↓op_move, ↓op_assign, ↓op_pick, ↓op_alloc, ↓op_box, ↓op_build, ↓op_buildSlice, ↓op_load, ↓op_store, ↓op_nilCheck, ↓op_bin, ↓op_un, ↓op_convert, ↓op_makeFunc, ↓op_makeSlice, ↓op_slice, ↓op_fieldAddr, ↓op_field, ↓op_indexAddr, ↓op_index, ↓op_extract, ↓op_lookup, ↓op_mapUpdate, ↓op_makeMap, ↓op_range, ↓op_next, ↓op_call, ↓op_builtin, ↓g_tt, ↓g_ff, ↓g_tf, ↓g_ft, ↓g_tnt, ↓g_tnf, ↓g_fnt, ↓g_fnf, ↓mkT_getD, hp, hsh, d7, d0, d1, hH, oS, dS, h4, dec_self, w16, iteT]
              exact ⟨hair, hair, inK_of (by omega) (by omega), inK_of (by omega) (by omega), hown, ⟨hair, by omega⟩, VEnt.refl _⟩
        · have d1 : decide (pathE a b c d e f = 0) = false := decide_eq_false h1
          simp only [Proofs.Tryz.f10]
          rw [enter_mkT (Nat.le_of_ble_eq_true rfl)]
          simp (maxSteps := 4000000) only [go_sem, ↓op_move, ↓op_assign, ↓op_pick, ↓op_alloc, ↓op_box, ↓op_build, ↓op_buildSlice, ↓op_load, ↓op_store, ↓op_nilCheck, ↓op_bin, ↓op_un, ↓op_convert, ↓op_makeFunc, ↓op_makeSlice, ↓op_slice, ↓op_fieldAddr, ↓op_field, ↓op_indexAddr, ↓op_index, ↓op_extract, ↓op_lookup, ↓op_mapUpdate, ↓op_makeMap, ↓op_range, ↓op_next, ↓op_call, ↓op_builtin, ↓g_tt, ↓g_ff, ↓g_tf, ↓g_ft, ↓g_tnt, ↓g_tnf, ↓g_fnt, ↓g_fnf, ↓mkT_getD, hp, hsh, d7, d0, d1]
          exact ⟨hair, hair, VEnt.refl _⟩
      · have d0 : decide (airE n get = 0) = false := decide_eq_false h0
        simp only [Proofs.Tryz.f10]
        rw [enter_mkT (Nat.le_of_ble_eq_true rfl)]
        simp (maxSteps := 4000000) only [go_sem, ↓op_move, ↓op_assign, ↓op_pick, ↓op_alloc, ↓op_box, ↓op_build, ↓op_buildSlice, ↓op_load, ↓op_store, ↓op_nilCheck, ↓op_bin, ↓op_un, ↓op_convert, ↓op_makeFunc, ↓op_makeSlice, ↓op_slice, ↓op_fieldAddr, ↓op_field, ↓op_indexAddr, ↓op_index, ↓op_extract, ↓op_lookup, ↓op_mapUpdate, ↓op_makeMap, ↓op_range, ↓op_next, ↓op_call, ↓op_builtin, ↓g_tt, ↓g_ff, ↓g_tf, ↓g_ft, ↓g_tnt, ↓g_tnf, ↓g_fnt, ↓g_fnf, ↓mkT_getD, hp, hsh, d7, d0]
        exact ⟨hair, hair, VEnt.refl _⟩
  · have d7 : decide ((7 : Int) < (n : Int)) = true := decide_eq_true (by omega)
    simp only [Proofs.Tryz.f10]
    rw [enter_mkT (Nat.le_of_ble_eq_true rfl)]
    simp (maxSteps := 4000000) only [go_sem, ↓op_move, ↓op_assign, ↓op_pick, ↓op_alloc, ↓op_box, ↓op_build, ↓op_buildSlice, ↓op_load, ↓op_store, ↓op_nilCheck, ↓op_bin, ↓op_un, ↓op_convert, ↓op_makeFunc, ↓op_makeSlice, ↓op_slice, ↓op_fieldAddr, ↓op_field, ↓op_indexAddr, ↓op_index, ↓op_extract, ↓op_lookup, ↓op_mapUpdate, ↓op_makeMap, ↓op_range, ↓op_next, ↓op_call, ↓op_builtin, ↓g_tt, ↓g_ff, ↓g_tf, ↓g_ft, ↓g_tnt, ↓g_tnf, ↓g_fnt, ↓g_fnf, ↓mkT_getD, hp, d7]
    exact VEnt.refl _
end Go.Fly.Tryz
