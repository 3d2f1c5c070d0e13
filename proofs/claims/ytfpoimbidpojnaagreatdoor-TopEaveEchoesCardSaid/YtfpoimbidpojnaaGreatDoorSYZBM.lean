/- The air: the steps of a path. -/
import Derived.Test.YtfpoimbidpojnaaGreatDoorSYZBL
import Derived.Test.YtfpoimbidpojnaaGreatDoorAK
set_option linter.unusedSimpArgs false
set_option linter.unusedVariables false
set_option maxRecDepth 100000
set_option maxHeartbeats 1000000
namespace Go.Fly.Tryz
open Go

theorem aSteps_ok : Holds Proofs.Tryz.prog G0 35 stepsC := by
  refine Holds.of_exC D35 Proofs.Tryz.func35 rfl foll (by kernel_rfl) (tab [(24, rootsC), (58, atC), (59, placedC 90), (60, overC), (iceKey 2, iceC)]) (tab_ok ⟨aRoots_ok, aAt_ok, aPlaced_ok, aOver_ok, ice_holds, trivial⟩) G0_ok fun k0 rl args hpu hpre => ?_
  unfold stepsC at hpre ⊢
  split at hpre
  rotate_left
  · exact hpre.elim
  rename_i sq z0 z1 y0 y1 flat n sz get
  obtain ⟨rfl, hair, hok, hsq, hz0, hz1, hz2, rfl, rfl, hf0, hf1⟩ := hpre
  have hp := hair.pu
  obtain ⟨jx, hjx, hat⟩ := atE_ok hok (h := flat) (by omega)
  obtain ⟨hgj, hivj⟩ := hair.2 jx hjx
  have hpj := hivj.pu
  simp only [Proofs.Tryz.f35]
  simp (maxSteps := 4000000) only [go_sem, ↓op_move, ↓op_assign, ↓op_pick, ↓op_alloc, ↓op_box, ↓op_build, ↓op_buildSlice, ↓op_load, ↓op_store, ↓op_nilCheck, ↓op_bin, ↓op_un, ↓op_convert, ↓op_makeFunc, ↓op_makeSlice, ↓op_slice, ↓op_fieldAddr, ↓op_field, ↓op_indexAddr, ↓op_index, ↓op_extract, ↓op_lookup, ↓op_mapUpdate, ↓op_makeMap, ↓op_range, ↓op_next, ↓op_call, ↓op_builtin, ↓g_tt, ↓g_ff, ↓g_tf, ↓g_ft, ↓g_tnt, ↓g_tnf, ↓g_fnt, ↓g_fnf, hp]
  refine RestT.loopI (β := Nat) [7, 20, 21, 22, 23, 24, 25, 26, 27, 28, 29] (fun i => [(19, .int .i64 i)]) (fun i => updH (fun _ => none) (3, 5) (.cells [.int .i64 (if i = 0 then 0 else z1 - z0)])) (fun i => i ≤ 2) (fun i => 2 - i) 0 (by decide) ?_ ?_ ?_
  · simp (maxSteps := 4000000) only [go_sem, ↓op_move, ↓op_assign, ↓op_pick, ↓op_alloc, ↓op_box, ↓op_build, ↓op_buildSlice, ↓op_load, ↓op_store, ↓op_nilCheck, ↓op_bin, ↓op_un, ↓op_convert, ↓op_makeFunc, ↓op_makeSlice, ↓op_slice, ↓op_fieldAddr, ↓op_field, ↓op_indexAddr, ↓op_index, ↓op_extract, ↓op_lookup, ↓op_mapUpdate, ↓op_makeMap, ↓op_range, ↓op_next, ↓op_call, ↓op_builtin, ↓g_tt, ↓g_ff, ↓g_tf, ↓g_ft, ↓g_tnt, ↓g_tnf, ↓g_fnt, ↓g_fnf]
  · refine HpLe.upd HpLe.none ⟨_, updH_same _ _ _, rfl⟩
  · intro ck i hck hi
    generalize hq0 : exC _ _ _ _ _ = gg
    have hk0 : ¬ ck = 0 := by omega
    have hi3 : i = 0 ∨ i = 1 ∨ i = 2 := by omega
    rcases hi3 with rfl | rfl | rfl
    · rw [← hq0]
      clear hq0
      simp (maxSteps := 4000000) only [go_sem, ↓op_move, ↓op_assign, ↓op_pick, ↓op_alloc, ↓op_box, ↓op_build, ↓op_buildSlice, ↓op_load, ↓op_store, ↓op_nilCheck, ↓op_bin, ↓op_un, ↓op_convert, ↓op_makeFunc, ↓op_makeSlice, ↓op_slice, ↓op_fieldAddr, ↓op_field, ↓op_indexAddr, ↓op_index, ↓op_extract, ↓op_lookup, ↓op_mapUpdate, ↓op_makeMap, ↓op_range, ↓op_next, ↓op_call, ↓op_builtin, ↓g_tt, ↓g_ff, ↓g_tf, ↓g_ft, ↓g_tnt, ↓g_tnf, ↓g_fnt, ↓g_fnf, hk0]
      exact ⟨inK_of (by omega) (by omega), inK_of (by omega) (by omega), inK_of (by omega) (by omega), 1, by decide, by decide, rfl, HpLe.upd HpLe.none ⟨_, updH_same _ _ _, by simp [ObjLe]⟩⟩
    · rw [← hq0]
      clear hq0
      simp (maxSteps := 4000000) only [go_sem, ↓op_move, ↓op_assign, ↓op_pick, ↓op_alloc, ↓op_box, ↓op_build, ↓op_buildSlice, ↓op_load, ↓op_store, ↓op_nilCheck, ↓op_bin, ↓op_un, ↓op_convert, ↓op_makeFunc, ↓op_makeSlice, ↓op_slice, ↓op_fieldAddr, ↓op_field, ↓op_indexAddr, ↓op_index, ↓op_extract, ↓op_lookup, ↓op_mapUpdate, ↓op_makeMap, ↓op_range, ↓op_next, ↓op_call, ↓op_builtin, ↓g_tt, ↓g_ff, ↓g_tf, ↓g_ft, ↓g_tnt, ↓g_tnf, ↓g_fnt, ↓g_fnf, hk0]
      exact ⟨inK_of (by omega) (by omega), inK_of (by omega) (by omega), inK_of (by omega) (by omega), 2, by decide, by decide, rfl, HpLe.upd HpLe.none ⟨_, updH_same _ _ _, by simp [ObjLe]⟩⟩
    · rw [← hq0]
      clear hq0
      simp (maxSteps := 4000000) only [go_sem, ↓op_move, ↓op_assign, ↓op_pick, ↓op_alloc, ↓op_box, ↓op_build, ↓op_buildSlice, ↓op_load, ↓op_store, ↓op_nilCheck, ↓op_bin, ↓op_un, ↓op_convert, ↓op_makeFunc, ↓op_makeSlice, ↓op_slice, ↓op_fieldAddr, ↓op_field, ↓op_indexAddr, ↓op_index, ↓op_extract, ↓op_lookup, ↓op_mapUpdate, ↓op_makeMap, ↓op_range, ↓op_next, ↓op_call, ↓op_builtin, ↓g_tt, ↓g_ff, ↓g_tf, ↓g_ft, ↓g_tnt, ↓g_tnf, ↓g_fnt, ↓g_fnf, hk0, hat, hgj, hp, hpj]
      refine ⟨⟨hair, hok, hf0, hf1⟩, hair, ?_⟩
      refine RestT.ents (Ents.nilC (l := (ck + 1 + 1 + 1 + 1, 1000)) (l2 := (ck + 1 + 1 + 1, 10)) (cs := [.nils]) (j := 0) 2 (fun k => [.int .i64 (stepLo n get sq z0 z1 flat k), .int .i64 (stepHi n get sq z0 z1 flat k)]) (by simp) (by simp [updH]) rfl (by simp [updH]) rfl) ?_
      refine RestT.rangeFunc2 rfl (f := 90) (fn := Proofs.Tryz.f90) rfl en90 Proofs.Tryz.func90 rfl (fun L => by simp [updH]) (Dc := D90) (by kernel_rfl) ?_
      intro L r k1 e1 e2 e3 e4 e5 e6 hm hd1 hd2
      simp (maxSteps := 4000000) only [go_sem, ↓op_move, ↓op_assign, ↓op_pick, ↓op_alloc, ↓op_box, ↓op_build, ↓op_buildSlice, ↓op_load, ↓op_store, ↓op_nilCheck, ↓op_bin, ↓op_un, ↓op_convert, ↓op_makeFunc, ↓op_makeSlice, ↓op_slice, ↓op_fieldAddr, ↓op_field, ↓op_indexAddr, ↓op_index, ↓op_extract, ↓op_lookup, ↓op_mapUpdate, ↓op_makeMap, ↓op_range, ↓op_next, ↓op_call, ↓op_builtin, ↓g_tt, ↓g_ff, ↓g_tf, ↓g_ft, ↓g_tnt, ↓g_tnf, ↓g_fnt, ↓g_fnf, Proofs.Tryz.f90]
      refine RestT.loopI (β := Nat) [4, 5, 6, 10, 11, 12, 13, 14, 15, 16, 17, 18, 19, 20, 21, 22, 23, 24, 25, 26, 27, 28, 29, 30, 31, 32] (fun i => [(3, .int .i64 (botT n get i)), (9, .int .i64 i)])
        (fun i => updH (updH (updH (updH (updH (fun _ => none) (3, 5) (.cells [.int .i64 (z1 - z0)])) (ck + 1 + 1, 8) (.cells [.int .i64 jx])) (ck + 1 + 1 + 1, 10) (.cells [.msl (ck + 1 + 1 + 1 + 1, 1000) 0 i])) (ck + 1 + 1 + 1 + 1, 1000) (.arr i 2 (fun k => [.int .i64 (stepLo n get sq z0 z1 flat k), .int .i64 (stepHi n get sq z0 z1 flat k)]))) (0, L) (.raw (.loop r)))
        (fun i => i ≤ n) (fun i => n - i) 0 (Nat.zero_le _) ?_ ?_ ?_
      · simp (maxSteps := 4000000) only [go_sem, ↓op_move, ↓op_assign, ↓op_pick, ↓op_alloc, ↓op_box, ↓op_build, ↓op_buildSlice, ↓op_load, ↓op_store, ↓op_nilCheck, ↓op_bin, ↓op_un, ↓op_convert, ↓op_makeFunc, ↓op_makeSlice, ↓op_slice, ↓op_fieldAddr, ↓op_field, ↓op_indexAddr, ↓op_index, ↓op_extract, ↓op_lookup, ↓op_mapUpdate, ↓op_makeMap, ↓op_range, ↓op_next, ↓op_call, ↓op_builtin, ↓g_tt, ↓g_ff, ↓g_tf, ↓g_ft, ↓g_tnt, ↓g_tnf, ↓g_fnt, ↓g_fnf]
        rw [botT_lt hok.cnt.1]; rfl
      · refine HpLe.upd (HpLe.upd (HpLe.upd (HpLe.upd (HpLe.upd HpLe.none ⟨_, ?_, ObjLe.refl _⟩) ⟨_, ?_, ObjLe.refl _⟩) ⟨_, ?_, ObjLe.refl _⟩) ⟨_, ?_, ObjLe.refl _⟩) ⟨_, ?_, ObjLe.refl _⟩ <;> simp [updH, hk0]
      · intro ck2 i hck2 hi
        have hk2 : ¬ ck2 = 0 := by omega
        generalize hq0 : exC _ _ _ _ _ = gg
        by_cases hlt : i < n
        · have hd : decide ((i : Int) < (n : Int)) = true := by simp; omega
          obtain ⟨hg, hiv⟩ := hair.2 i hlt
          have hp2 := hiv.pu
          have hbt := bot_bd hok (i := i) (by omega)
          have hth := hok.th i hlt
          have hn8 := hok.cnt
          have hk21 : ¬ ck2 = 1 := by omega
          have hovT := over_le (bot := botE get i) (top := topE n get i) hz1
          have hov := hovT
          have htb := top_bd hok hlt
          have hov0 := over_zero (bot := botE get i) (top := topE n get i) (by omega) (by omega)
          by_cases hl : i + 1 = n
          · have hd3 : decide ((i : Int) = (n : Int) - 1) = true := by simp; omega
            have htop : topE n get i = 1099511627776 := by unfold topE; rw [if_pos (by omega)]
            rw [htop] at hov hov0
            rw [← hq0]
            clear hq0
            simp (maxSteps := 4000000) only [go_sem, ↓op_move, ↓op_assign, ↓op_pick, ↓op_alloc, ↓op_box, ↓op_build, ↓op_buildSlice, ↓op_load, ↓op_store, ↓op_nilCheck, ↓op_bin, ↓op_un, ↓op_convert, ↓op_makeFunc, ↓op_makeSlice, ↓op_slice, ↓op_fieldAddr, ↓op_field, ↓op_indexAddr, ↓op_index, ↓op_extract, ↓op_lookup, ↓op_mapUpdate, ↓op_makeMap, ↓op_range, ↓op_next, ↓op_call, ↓op_builtin, ↓g_tt, ↓g_ff, ↓g_tf, ↓g_ft, ↓g_tnt, ↓g_tnf, ↓g_fnt, ↓g_fnf, hd, hd3, hg, hp, hp2, hk2, hk21, botT_lt hlt]
            refine ⟨by omega, inK_of (by omega) (by omega), inK_of (by omega) (by omega), ?_⟩
            refine YieldT.of rfl (r := r) (by simp [updH]) e4 (by rw [e1]; rfl) e6 (by rw [e2]; exact hd1) (by rw [e3]; exact hd2) hm ?_
            intro kb
            simp (maxSteps := 4000000) only [e1, e2, e3, go_sem, ↓op_move, ↓op_assign, ↓op_pick, ↓op_alloc, ↓op_box, ↓op_build, ↓op_buildSlice, ↓op_load, ↓op_store, ↓op_nilCheck, ↓op_bin, ↓op_un, ↓op_convert, ↓op_makeFunc, ↓op_makeSlice, ↓op_slice, ↓op_fieldAddr, ↓op_field, ↓op_indexAddr, ↓op_index, ↓op_extract, ↓op_lookup, ↓op_mapUpdate, ↓op_makeMap, ↓op_range, ↓op_next, ↓op_call, ↓op_builtin, ↓g_tt, ↓g_ff, ↓g_tf, ↓g_ft, ↓g_tnt, ↓g_tnf, ↓g_fnt, ↓g_fnf, hk0, hk2, hk21, hp, hp2]
            refine RestT.loopI (β := Nat) [15, 44, 45, 46, 47, 48, 49, 50, 51, 52, 53, 54] (fun b => [(13, .int .i64 (if b = 0 then 0 else overE (botE get i) (topE n get i) z0 z1)), (43, .int .i64 b)]) (fun _ => _) (fun b => b ≤ 2) (fun b => 2 - b) 0 (by decide) ?_ (HpLe.refl _) ?_
            · simp (maxSteps := 4000000) only [go_sem, ↓op_move, ↓op_assign, ↓op_pick, ↓op_alloc, ↓op_box, ↓op_build, ↓op_buildSlice, ↓op_load, ↓op_store, ↓op_nilCheck, ↓op_bin, ↓op_un, ↓op_convert, ↓op_makeFunc, ↓op_makeSlice, ↓op_slice, ↓op_fieldAddr, ↓op_field, ↓op_indexAddr, ↓op_index, ↓op_extract, ↓op_lookup, ↓op_mapUpdate, ↓op_makeMap, ↓op_range, ↓op_next, ↓op_call, ↓op_builtin, ↓g_tt, ↓g_ff, ↓g_tf, ↓g_ft, ↓g_tnt, ↓g_tnf, ↓g_fnt, ↓g_fnf]
            · intro ck3 b hck3 hb
              have hk3 : ¬ ck3 = 0 := by omega
              generalize hq1 : exC _ _ _ _ _ = gg1
              have hb3 : b = 0 ∨ b = 1 ∨ b = 2 := by omega
              rcases hb3 with rfl | rfl | rfl
              · rw [← hq1]
                clear hq1
                simp (maxSteps := 4000000) only [go_sem, ↓op_move, ↓op_assign, ↓op_pick, ↓op_alloc, ↓op_box, ↓op_build, ↓op_buildSlice, ↓op_load, ↓op_store, ↓op_nilCheck, ↓op_bin, ↓op_un, ↓op_convert, ↓op_makeFunc, ↓op_makeSlice, ↓op_slice, ↓op_fieldAddr, ↓op_field, ↓op_indexAddr, ↓op_index, ↓op_extract, ↓op_lookup, ↓op_mapUpdate, ↓op_makeMap, ↓op_range, ↓op_next, ↓op_call, ↓op_builtin, ↓g_tt, ↓g_ff, ↓g_tf, ↓g_ft, ↓g_tnt, ↓g_tnf, ↓g_fnt, ↓g_fnf, hk0, hk2, hk21, hp, hp2, hk3, hk3]
                refine ⟨⟨⟨by omega, by omega⟩, ⟨by omega, by omega⟩, by omega, by omega⟩, inK_of (by omega) (by omega), inK_of (by omega) (by omega), by omega, 1, by decide, by decide, ⟨?_, rfl⟩, HpLe.drop2 ?_⟩
                · simp [htop]
                · simp [updH]
              · rw [← hq1]
                clear hq1
                simp (maxSteps := 4000000) only [go_sem, ↓op_move, ↓op_assign, ↓op_pick, ↓op_alloc, ↓op_box, ↓op_build, ↓op_buildSlice, ↓op_load, ↓op_store, ↓op_nilCheck, ↓op_bin, ↓op_un, ↓op_convert, ↓op_makeFunc, ↓op_makeSlice, ↓op_slice, ↓op_fieldAddr, ↓op_field, ↓op_indexAddr, ↓op_index, ↓op_extract, ↓op_lookup, ↓op_mapUpdate, ↓op_makeMap, ↓op_range, ↓op_next, ↓op_call, ↓op_builtin, ↓g_tt, ↓g_ff, ↓g_tf, ↓g_ft, ↓g_tnt, ↓g_tnf, ↓g_fnt, ↓g_fnf, hk0, hk2, hk21, hp, hp2, hk3, hk3]
                refine ⟨⟨by omega, by omega⟩, inK_of (by omega) (by omega), inK_of (by omega) (by omega), by omega, 2, by decide, by decide, ⟨?_, rfl⟩, HpLe.drop2 ?_⟩
                · simp [hov0]
                · simp [updH]
              · by_cases hz : z1 - z0 = 0
                · have fd : decide (z1 - z0 = 0) = true := decide_eq_true hz
                  by_cases hij : (i : Int) = (jx : Int)
                  · have fij : decide ((i : Int) = (jx : Int)) = true := decide_eq_true hij
                    have hpe : partE n get z0 z1 flat i = 1 := by unfold partE; rw [if_pos hz, hat, if_pos hij]
                    have hbe : byE z0 z1 = 1 := by unfold byE; rw [if_pos hz]
                    have hrow : [V.int .i64 (stepLo n get sq z0 z1 flat i), V.int .i64 (stepHi n get sq z0 z1 flat i)] = [V.int .i64 (rootE (sq * (1) * (1)) 10000), V.int .i64 (rootUp (sq * (1) * (1)) 10000)] := by
                      unfold stepLo stepHi; rw [hpe, hbe]; rfl
                    by_cases h00 : z0 = 0
                    · have q0 : decide (z0 = 0) = true := decide_eq_true h00
                      have q1 : decide (z1 = 0) = true := decide_eq_true (by omega)
                      rw [← hq1]
                      clear hq1
                      simp (maxSteps := 4000000) only [go_sem, ↓op_move, ↓op_assign, ↓op_pick, ↓op_alloc, ↓op_box, ↓op_build, ↓op_buildSlice, ↓op_load, ↓op_store, ↓op_nilCheck, ↓op_bin, ↓op_un, ↓op_convert, ↓op_makeFunc, ↓op_makeSlice, ↓op_slice, ↓op_fieldAddr, ↓op_field, ↓op_indexAddr, ↓op_index, ↓op_extract, ↓op_lookup, ↓op_mapUpdate, ↓op_makeMap, ↓op_range, ↓op_next, ↓op_call, ↓op_builtin, ↓g_tt, ↓g_ff, ↓g_tf, ↓g_ft, ↓g_tnt, ↓g_tnf, ↓g_fnt, ↓g_fnf, hk0, hk2, hk21, hp, hp2, hk3, fd, fij, q0, q1]
                      refine ⟨inK_of (by omega) (by omega), inK_of (by omega) (by omega), inK_of (by decide) (by decide), inK_of (by decide) (by decide), inK_of (by decide) (by decide), ⟨by omega, by omega⟩, ⟨by omega, by omega, row_ok rfl ones2⟩, by simp only [e1, e2, e3], inK_of (by omega) (by omega), by omega, i + 1, hlt, by omega, ⟨by rw [botT_next hlt, htop], rfl⟩, ?_⟩
                      refine HpLe.upd (HpLe.upd (HpLe.upd (HpLe.upd (HpLe.upd HpLe.none ⟨_, ?_, ObjLe.refl _⟩) ⟨_, ?_, ObjLe.refl _⟩) ⟨_, ?_, ObjLe.refl _⟩) ⟨_, ?_, objLe_arr fun j hj => snoc (f := fun k => [V.int .i64 (stepLo n get sq z0 z1 flat k), V.int .i64 (stepHi n get sq z0 z1 flat k)]) rfl hrow hj⟩) ⟨_, updH_same _ _ _, ?_⟩
                      · simp (maxSteps := 4000000) only [go_sem, ↓op_move, ↓op_assign, ↓op_pick, ↓op_alloc, ↓op_box, ↓op_build, ↓op_buildSlice, ↓op_load, ↓op_store, ↓op_nilCheck, ↓op_bin, ↓op_un, ↓op_convert, ↓op_makeFunc, ↓op_makeSlice, ↓op_slice, ↓op_fieldAddr, ↓op_field, ↓op_indexAddr, ↓op_index, ↓op_extract, ↓op_lookup, ↓op_mapUpdate, ↓op_makeMap, ↓op_range, ↓op_next, ↓op_call, ↓op_builtin, ↓g_tt, ↓g_ff, ↓g_tf, ↓g_ft, ↓g_tnt, ↓g_tnf, ↓g_fnt, ↓g_fnf, hk0, hk2, hk21, hk3]
                      · simp (maxSteps := 4000000) only [go_sem, ↓op_move, ↓op_assign, ↓op_pick, ↓op_alloc, ↓op_box, ↓op_build, ↓op_buildSlice, ↓op_load, ↓op_store, ↓op_nilCheck, ↓op_bin, ↓op_un, ↓op_convert, ↓op_makeFunc, ↓op_makeSlice, ↓op_slice, ↓op_fieldAddr, ↓op_field, ↓op_indexAddr, ↓op_index, ↓op_extract, ↓op_lookup, ↓op_mapUpdate, ↓op_makeMap, ↓op_range, ↓op_next, ↓op_call, ↓op_builtin, ↓g_tt, ↓g_ff, ↓g_tf, ↓g_ft, ↓g_tnt, ↓g_tnf, ↓g_fnt, ↓g_fnf, hk0, hk2, hk21, hk3]
                      · simp (maxSteps := 4000000) only [go_sem, ↓op_move, ↓op_assign, ↓op_pick, ↓op_alloc, ↓op_box, ↓op_build, ↓op_buildSlice, ↓op_load, ↓op_store, ↓op_nilCheck, ↓op_bin, ↓op_un, ↓op_convert, ↓op_makeFunc, ↓op_makeSlice, ↓op_slice, ↓op_fieldAddr, ↓op_field, ↓op_indexAddr, ↓op_index, ↓op_extract, ↓op_lookup, ↓op_mapUpdate, ↓op_makeMap, ↓op_range, ↓op_next, ↓op_call, ↓op_builtin, ↓g_tt, ↓g_ff, ↓g_tf, ↓g_ft, ↓g_tnt, ↓g_tnf, ↓g_fnt, ↓g_fnf, hk0, hk2, hk21, hk3]
                      · simp (maxSteps := 4000000) only [go_sem, ↓op_move, ↓op_assign, ↓op_pick, ↓op_alloc, ↓op_box, ↓op_build, ↓op_buildSlice, ↓op_load, ↓op_store, ↓op_nilCheck, ↓op_bin, ↓op_un, ↓op_convert, ↓op_makeFunc, ↓op_makeSlice, ↓op_slice, ↓op_fieldAddr, ↓op_field, ↓op_indexAddr, ↓op_index, ↓op_extract, ↓op_lookup, ↓op_mapUpdate, ↓op_makeMap, ↓op_range, ↓op_next, ↓op_call, ↓op_builtin, ↓g_tt, ↓g_ff, ↓g_tf, ↓g_ft, ↓g_tnt, ↓g_tnf, ↓g_fnt, ↓g_fnf, hk0, hk2, hk21, hk3]
                      · first | (rw [loop_eta rfl rfl rfl e4 e5]; exact ObjLe.refl _) | (rw [loop_eta e1 e2 e3 e4 e5]; exact ObjLe.refl _)
                    · have q0 : decide (z0 = 0) = false := decide_eq_false h00
                      rw [← hq1]
                      clear hq1
                      simp (maxSteps := 4000000) only [go_sem, ↓op_move, ↓op_assign, ↓op_pick, ↓op_alloc, ↓op_box, ↓op_build, ↓op_buildSlice, ↓op_load, ↓op_store, ↓op_nilCheck, ↓op_bin, ↓op_un, ↓op_convert, ↓op_makeFunc, ↓op_makeSlice, ↓op_slice, ↓op_fieldAddr, ↓op_field, ↓op_indexAddr, ↓op_index, ↓op_extract, ↓op_lookup, ↓op_mapUpdate, ↓op_makeMap, ↓op_range, ↓op_next, ↓op_call, ↓op_builtin, ↓g_tt, ↓g_ff, ↓g_tf, ↓g_ft, ↓g_tnt, ↓g_tnf, ↓g_fnt, ↓g_fnf, hk0, hk2, hk21, hp, hp2, hk3, fd, fij, q0, Bool.false_and]
                      refine ⟨inK_of (by omega) (by omega), inK_of (by omega) (by omega), inK_of (by decide) (by decide), inK_of (by decide) (by decide), inK_of (by decide) (by decide), ⟨by omega, by omega⟩, ⟨by omega, by omega, row_ok rfl ones2⟩, by simp only [e1, e2, e3], inK_of (by omega) (by omega), by omega, i + 1, hlt, by omega, ⟨by rw [botT_next hlt, htop], rfl⟩, ?_⟩
                      refine HpLe.upd (HpLe.upd (HpLe.upd (HpLe.upd (HpLe.upd HpLe.none ⟨_, ?_, ObjLe.refl _⟩) ⟨_, ?_, ObjLe.refl _⟩) ⟨_, ?_, ObjLe.refl _⟩) ⟨_, ?_, objLe_arr fun j hj => snoc (f := fun k => [V.int .i64 (stepLo n get sq z0 z1 flat k), V.int .i64 (stepHi n get sq z0 z1 flat k)]) rfl hrow hj⟩) ⟨_, updH_same _ _ _, ?_⟩
                      · simp (maxSteps := 4000000) only [go_sem, ↓op_move, ↓op_assign, ↓op_pick, ↓op_alloc, ↓op_box, ↓op_build, ↓op_buildSlice, ↓op_load, ↓op_store, ↓op_nilCheck, ↓op_bin, ↓op_un, ↓op_convert, ↓op_makeFunc, ↓op_makeSlice, ↓op_slice, ↓op_fieldAddr, ↓op_field, ↓op_indexAddr, ↓op_index, ↓op_extract, ↓op_lookup, ↓op_mapUpdate, ↓op_makeMap, ↓op_range, ↓op_next, ↓op_call, ↓op_builtin, ↓g_tt, ↓g_ff, ↓g_tf, ↓g_ft, ↓g_tnt, ↓g_tnf, ↓g_fnt, ↓g_fnf, hk0, hk2, hk21, hk3]
                      · simp (maxSteps := 4000000) only [go_sem, ↓op_move, ↓op_assign, ↓op_pick, ↓op_alloc, ↓op_box, ↓op_build, ↓op_buildSlice, ↓op_load, ↓op_store, ↓op_nilCheck, ↓op_bin, ↓op_un, ↓op_convert, ↓op_makeFunc, ↓op_makeSlice, ↓op_slice, ↓op_fieldAddr, ↓op_field, ↓op_indexAddr, ↓op_index, ↓op_extract, ↓op_lookup, ↓op_mapUpdate, ↓op_makeMap, ↓op_range, ↓op_next, ↓op_call, ↓op_builtin, ↓g_tt, ↓g_ff, ↓g_tf, ↓g_ft, ↓g_tnt, ↓g_tnf, ↓g_fnt, ↓g_fnf, hk0, hk2, hk21, hk3]
                      · simp (maxSteps := 4000000) only [go_sem, ↓op_move, ↓op_assign, ↓op_pick, ↓op_alloc, ↓op_box, ↓op_build, ↓op_buildSlice, ↓op_load, ↓op_store, ↓op_nilCheck, ↓op_bin, ↓op_un, ↓op_convert, ↓op_makeFunc, ↓op_makeSlice, ↓op_slice, ↓op_fieldAddr, ↓op_field, ↓op_indexAddr, ↓op_index, ↓op_extract, ↓op_lookup, ↓op_mapUpdate, ↓op_makeMap, ↓op_range, ↓op_next, ↓op_call, ↓op_builtin, ↓g_tt, ↓g_ff, ↓g_tf, ↓g_ft, ↓g_tnt, ↓g_tnf, ↓g_fnt, ↓g_fnf, hk0, hk2, hk21, hk3]
                      · simp (maxSteps := 4000000) only [go_sem, ↓op_move, ↓op_assign, ↓op_pick, ↓op_alloc, ↓op_box, ↓op_build, ↓op_buildSlice, ↓op_load, ↓op_store, ↓op_nilCheck, ↓op_bin, ↓op_un, ↓op_convert, ↓op_makeFunc, ↓op_makeSlice, ↓op_slice, ↓op_fieldAddr, ↓op_field, ↓op_indexAddr, ↓op_index, ↓op_extract, ↓op_lookup, ↓op_mapUpdate, ↓op_makeMap, ↓op_range, ↓op_next, ↓op_call, ↓op_builtin, ↓g_tt, ↓g_ff, ↓g_tf, ↓g_ft, ↓g_tnt, ↓g_tnf, ↓g_fnt, ↓g_fnf, hk0, hk2, hk21, hk3]
                      · first | (rw [loop_eta rfl rfl rfl e4 e5]; exact ObjLe.refl _) | (rw [loop_eta e1 e2 e3 e4 e5]; exact ObjLe.refl _)
                  · have fij : decide ((i : Int) = (jx : Int)) = false := decide_eq_false hij
                    have hpe : partE n get z0 z1 flat i = 0 := by unfold partE; rw [if_pos hz, hat, if_neg hij]
                    have hbe : byE z0 z1 = 1 := by unfold byE; rw [if_pos hz]
                    have hrow : [V.int .i64 (stepLo n get sq z0 z1 flat i), V.int .i64 (stepHi n get sq z0 z1 flat i)] = [V.int .i64 (rootE (sq * (0) * (0)) 10000), V.int .i64 (rootUp (sq * (0) * (0)) 10000)] := by
                      unfold stepLo stepHi; rw [hpe, hbe]; rfl
                    by_cases h00 : z0 = 0
                    · have q0 : decide (z0 = 0) = true := decide_eq_true h00
                      have q1 : decide (z1 = 0) = true := decide_eq_true (by omega)
                      rw [← hq1]
                      clear hq1
                      simp (maxSteps := 4000000) only [go_sem, ↓op_move, ↓op_assign, ↓op_pick, ↓op_alloc, ↓op_box, ↓op_build, ↓op_buildSlice, ↓op_load, ↓op_store, ↓op_nilCheck, ↓op_bin, ↓op_un, ↓op_convert, ↓op_makeFunc, ↓op_makeSlice, ↓op_slice, ↓op_fieldAddr, ↓op_field, ↓op_indexAddr, ↓op_index, ↓op_extract, ↓op_lookup, ↓op_mapUpdate, ↓op_makeMap, ↓op_range, ↓op_next, ↓op_call, ↓op_builtin, ↓g_tt, ↓g_ff, ↓g_tf, ↓g_ft, ↓g_tnt, ↓g_tnf, ↓g_fnt, ↓g_fnf, hk0, hk2, hk21, hp, hp2, hk3, fd, fij, q0, q1]
                      refine ⟨inK_of (by omega) (by omega), inK_of (by omega) (by omega), inK_of (by decide) (by decide), inK_of (by decide) (by decide), inK_of (by decide) (by decide), ⟨by omega, by omega⟩, ⟨by omega, by omega, row_ok rfl ones2⟩, by simp only [e1, e2, e3], inK_of (by omega) (by omega), by omega, i + 1, hlt, by omega, ⟨by rw [botT_next hlt, htop], rfl⟩, ?_⟩
                      refine HpLe.upd (HpLe.upd (HpLe.upd (HpLe.upd (HpLe.upd HpLe.none ⟨_, ?_, ObjLe.refl _⟩) ⟨_, ?_, ObjLe.refl _⟩) ⟨_, ?_, ObjLe.refl _⟩) ⟨_, ?_, objLe_arr fun j hj => snoc (f := fun k => [V.int .i64 (stepLo n get sq z0 z1 flat k), V.int .i64 (stepHi n get sq z0 z1 flat k)]) rfl hrow hj⟩) ⟨_, updH_same _ _ _, ?_⟩
                      · simp (maxSteps := 4000000) only [go_sem, ↓op_move, ↓op_assign, ↓op_pick, ↓op_alloc, ↓op_box, ↓op_build, ↓op_buildSlice, ↓op_load, ↓op_store, ↓op_nilCheck, ↓op_bin, ↓op_un, ↓op_convert, ↓op_makeFunc, ↓op_makeSlice, ↓op_slice, ↓op_fieldAddr, ↓op_field, ↓op_indexAddr, ↓op_index, ↓op_extract, ↓op_lookup, ↓op_mapUpdate, ↓op_makeMap, ↓op_range, ↓op_next, ↓op_call, ↓op_builtin, ↓g_tt, ↓g_ff, ↓g_tf, ↓g_ft, ↓g_tnt, ↓g_tnf, ↓g_fnt, ↓g_fnf, hk0, hk2, hk21, hk3]
                      · simp (maxSteps := 4000000) only [go_sem, ↓op_move, ↓op_assign, ↓op_pick, ↓op_alloc, ↓op_box, ↓op_build, ↓op_buildSlice, ↓op_load, ↓op_store, ↓op_nilCheck, ↓op_bin, ↓op_un, ↓op_convert, ↓op_makeFunc, ↓op_makeSlice, ↓op_slice, ↓op_fieldAddr, ↓op_field, ↓op_indexAddr, ↓op_index, ↓op_extract, ↓op_lookup, ↓op_mapUpdate, ↓op_makeMap, ↓op_range, ↓op_next, ↓op_call, ↓op_builtin, ↓g_tt, ↓g_ff, ↓g_tf, ↓g_ft, ↓g_tnt, ↓g_tnf, ↓g_fnt, ↓g_fnf, hk0, hk2, hk21, hk3]
                      · simp (maxSteps := 4000000) only [go_sem, ↓op_move, ↓op_assign, ↓op_pick, ↓op_alloc, ↓op_box, ↓op_build, ↓op_buildSlice, ↓op_load, ↓op_store, ↓op_nilCheck, ↓op_bin, ↓op_un, ↓op_convert, ↓op_makeFunc, ↓op_makeSlice, ↓op_slice, ↓op_fieldAddr, ↓op_field, ↓op_indexAddr, ↓op_index, ↓op_extract, ↓op_lookup, ↓op_mapUpdate, ↓op_makeMap, ↓op_range, ↓op_next, ↓op_call, ↓op_builtin, ↓g_tt, ↓g_ff, ↓g_tf, ↓g_ft, ↓g_tnt, ↓g_tnf, ↓g_fnt, ↓g_fnf, hk0, hk2, hk21, hk3]
                      · simp (maxSteps := 4000000) only [go_sem, ↓op_move, ↓op_assign, ↓op_pick, ↓op_alloc, ↓op_box, ↓op_build, ↓op_buildSlice, ↓op_load, ↓op_store, ↓op_nilCheck, ↓op_bin, ↓op_un, ↓op_convert, ↓op_makeFunc, ↓op_makeSlice, ↓op_slice, ↓op_fieldAddr, ↓op_field, ↓op_indexAddr, ↓op_index, ↓op_extract, ↓op_lookup, ↓op_mapUpdate, ↓op_makeMap, ↓op_range, ↓op_next, ↓op_call, ↓op_builtin, ↓g_tt, ↓g_ff, ↓g_tf, ↓g_ft, ↓g_tnt, ↓g_tnf, ↓g_fnt, ↓g_fnf, hk0, hk2, hk21, hk3]
                      · first | (rw [loop_eta rfl rfl rfl e4 e5]; exact ObjLe.refl _) | (rw [loop_eta e1 e2 e3 e4 e5]; exact ObjLe.refl _)
                    · have q0 : decide (z0 = 0) = false := decide_eq_false h00
                      rw [← hq1]
                      clear hq1
                      simp (maxSteps := 4000000) only [go_sem, ↓op_move, ↓op_assign, ↓op_pick, ↓op_alloc, ↓op_box, ↓op_build, ↓op_buildSlice, ↓op_load, ↓op_store, ↓op_nilCheck, ↓op_bin, ↓op_un, ↓op_convert, ↓op_makeFunc, ↓op_makeSlice, ↓op_slice, ↓op_fieldAddr, ↓op_field, ↓op_indexAddr, ↓op_index, ↓op_extract, ↓op_lookup, ↓op_mapUpdate, ↓op_makeMap, ↓op_range, ↓op_next, ↓op_call, ↓op_builtin, ↓g_tt, ↓g_ff, ↓g_tf, ↓g_ft, ↓g_tnt, ↓g_tnf, ↓g_fnt, ↓g_fnf, hk0, hk2, hk21, hp, hp2, hk3, fd, fij, q0, Bool.false_and]
                      refine ⟨inK_of (by omega) (by omega), inK_of (by omega) (by omega), inK_of (by decide) (by decide), inK_of (by decide) (by decide), inK_of (by decide) (by decide), ⟨by omega, by omega⟩, ⟨by omega, by omega, row_ok rfl ones2⟩, by simp only [e1, e2, e3], inK_of (by omega) (by omega), by omega, i + 1, hlt, by omega, ⟨by rw [botT_next hlt, htop], rfl⟩, ?_⟩
                      refine HpLe.upd (HpLe.upd (HpLe.upd (HpLe.upd (HpLe.upd HpLe.none ⟨_, ?_, ObjLe.refl _⟩) ⟨_, ?_, ObjLe.refl _⟩) ⟨_, ?_, ObjLe.refl _⟩) ⟨_, ?_, objLe_arr fun j hj => snoc (f := fun k => [V.int .i64 (stepLo n get sq z0 z1 flat k), V.int .i64 (stepHi n get sq z0 z1 flat k)]) rfl hrow hj⟩) ⟨_, updH_same _ _ _, ?_⟩
                      · simp (maxSteps := 4000000) only [go_sem, ↓op_move, ↓op_assign, ↓op_pick, ↓op_alloc, ↓op_box, ↓op_build, ↓op_buildSlice, ↓op_load, ↓op_store, ↓op_nilCheck, ↓op_bin, ↓op_un, ↓op_convert, ↓op_makeFunc, ↓op_makeSlice, ↓op_slice, ↓op_fieldAddr, ↓op_field, ↓op_indexAddr, ↓op_index, ↓op_extract, ↓op_lookup, ↓op_mapUpdate, ↓op_makeMap, ↓op_range, ↓op_next, ↓op_call, ↓op_builtin, ↓g_tt, ↓g_ff, ↓g_tf, ↓g_ft, ↓g_tnt, ↓g_tnf, ↓g_fnt, ↓g_fnf, hk0, hk2, hk21, hk3]
                      · simp (maxSteps := 4000000) only [go_sem, ↓op_move, ↓op_assign, ↓op_pick, ↓op_alloc, ↓op_box, ↓op_build, ↓op_buildSlice, ↓op_load, ↓op_store, ↓op_nilCheck, ↓op_bin, ↓op_un, ↓op_convert, ↓op_makeFunc, ↓op_makeSlice, ↓op_slice, ↓op_fieldAddr, ↓op_field, ↓op_indexAddr, ↓op_index, ↓op_extract, ↓op_lookup, ↓op_mapUpdate, ↓op_makeMap, ↓op_range, ↓op_next, ↓op_call, ↓op_builtin, ↓g_tt, ↓g_ff, ↓g_tf, ↓g_ft, ↓g_tnt, ↓g_tnf, ↓g_fnt, ↓g_fnf, hk0, hk2, hk21, hk3]
                      · simp (maxSteps := 4000000) only [go_sem, ↓op_move, ↓op_assign, ↓op_pick, ↓op_alloc, ↓op_box, ↓op_build, ↓op_buildSlice, ↓op_load, ↓op_store, ↓op_nilCheck, ↓op_bin, ↓op_un, ↓op_convert, ↓op_makeFunc, ↓op_makeSlice, ↓op_slice, ↓op_fieldAddr, ↓op_field, ↓op_indexAddr, ↓op_index, ↓op_extract, ↓op_lookup, ↓op_mapUpdate, ↓op_makeMap, ↓op_range, ↓op_next, ↓op_call, ↓op_builtin, ↓g_tt, ↓g_ff, ↓g_tf, ↓g_ft, ↓g_tnt, ↓g_tnf, ↓g_fnt, ↓g_fnf, hk0, hk2, hk21, hk3]
                      · simp (maxSteps := 4000000) only [go_sem, ↓op_move, ↓op_assign, ↓op_pick, ↓op_alloc, ↓op_box, ↓op_build, ↓op_buildSlice, ↓op_load, ↓op_store, ↓op_nilCheck, ↓op_bin, ↓op_un, ↓op_convert, ↓op_makeFunc, ↓op_makeSlice, ↓op_slice, ↓op_fieldAddr, ↓op_field, ↓op_indexAddr, ↓op_index, ↓op_extract, ↓op_lookup, ↓op_mapUpdate, ↓op_makeMap, ↓op_range, ↓op_next, ↓op_call, ↓op_builtin, ↓g_tt, ↓g_ff, ↓g_tf, ↓g_ft, ↓g_tnt, ↓g_tnf, ↓g_fnt, ↓g_fnf, hk0, hk2, hk21, hk3]
                      · first | (rw [loop_eta rfl rfl rfl e4 e5]; exact ObjLe.refl _) | (rw [loop_eta e1 e2 e3 e4 e5]; exact ObjLe.refl _)
                · have fd : decide (z1 - z0 = 0) = false := decide_eq_false hz
                  have hpe : partE n get z0 z1 flat i = overE (botE get i) (topE n get i) z0 z1 := by unfold partE; rw [if_neg hz]
                  have hbe : byE z0 z1 = z1 - z0 := by unfold byE; rw [if_neg hz]
                  have hrow : [V.int .i64 (stepLo n get sq z0 z1 flat i), V.int .i64 (stepHi n get sq z0 z1 flat i)] = [V.int .i64 (rootE (sq * (overE (botE get i) (topE n get i) z0 z1) * (overE (botE get i) (topE n get i) z0 z1)) ((z1 - z0) * (z1 - z0) * 100 * 100)), V.int .i64 (rootUp (sq * (overE (botE get i) (topE n get i) z0 z1) * (overE (botE get i) (topE n get i) z0 z1)) ((z1 - z0) * (z1 - z0) * 100 * 100))] := by
                    unfold stepLo stepHi; rw [hpe, hbe]
                  have b1 := mul_le_of hsq.1 hsq.2 hovT.1 (show overE (botE get i) (topE n get i) z0 z1 ≤ 10000 by omega)
                  have b2 := mul_le_of b1.1 b1.2 hovT.1 (show overE (botE get i) (topE n get i) z0 z1 ≤ 10000 by omega)
                  have b3 := mul_le_of (a := z1 - z0) (b := z1 - z0) (A := 10000) (B := 10000) (by omega) (by omega) (by omega) (by omega)
                  have b4 := Int.mul_pos (show 0 < z1 - z0 by omega) (show 0 < z1 - z0 by omega)
                  by_cases h00 : z0 = 0
                  · have q0 : decide (z0 = 0) = true := decide_eq_true h00
                    have q1 : decide (z1 = 0) = false := decide_eq_false (by omega)
                    rw [← hq1]
                    clear hq1
                    simp (maxSteps := 4000000) only [go_sem, ↓op_move, ↓op_assign, ↓op_pick, ↓op_alloc, ↓op_box, ↓op_build, ↓op_buildSlice, ↓op_load, ↓op_store, ↓op_nilCheck, ↓op_bin, ↓op_un, ↓op_convert, ↓op_makeFunc, ↓op_makeSlice, ↓op_slice, ↓op_fieldAddr, ↓op_field, ↓op_indexAddr, ↓op_index, ↓op_extract, ↓op_lookup, ↓op_mapUpdate, ↓op_makeMap, ↓op_range, ↓op_next, ↓op_call, ↓op_builtin, ↓g_tt, ↓g_ff, ↓g_tf, ↓g_ft, ↓g_tnt, ↓g_tnf, ↓g_fnt, ↓g_fnf, hk0, hk2, hk21, hp, hp2, hk3, fd, q0, q1]
                    refine ⟨inK_of (by omega) (by omega), inK_of (by omega) (by omega), inK_of (by omega) (by omega), inK_of (by omega) (by omega), inK_of (by omega) (by omega), ⟨by omega, by omega, by omega, by omega⟩, ⟨by omega, by omega, row_ok rfl ones2⟩, by simp only [e1, e2, e3], inK_of (by omega) (by omega), by omega, i + 1, hlt, by omega, ⟨by rw [botT_next hlt, htop], rfl⟩, ?_⟩
                    refine HpLe.upd (HpLe.upd (HpLe.upd (HpLe.upd (HpLe.upd HpLe.none ⟨_, ?_, ObjLe.refl _⟩) ⟨_, ?_, ObjLe.refl _⟩) ⟨_, ?_, ObjLe.refl _⟩) ⟨_, ?_, objLe_arr fun j hj => snoc (f := fun k => [V.int .i64 (stepLo n get sq z0 z1 flat k), V.int .i64 (stepHi n get sq z0 z1 flat k)]) rfl hrow hj⟩) ⟨_, updH_same _ _ _, ?_⟩
                    · simp (maxSteps := 4000000) only [go_sem, ↓op_move, ↓op_assign, ↓op_pick, ↓op_alloc, ↓op_box, ↓op_build, ↓op_buildSlice, ↓op_load, ↓op_store, ↓op_nilCheck, ↓op_bin, ↓op_un, ↓op_convert, ↓op_makeFunc, ↓op_makeSlice, ↓op_slice, ↓op_fieldAddr, ↓op_field, ↓op_indexAddr, ↓op_index, ↓op_extract, ↓op_lookup, ↓op_mapUpdate, ↓op_makeMap, ↓op_range, ↓op_next, ↓op_call, ↓op_builtin, ↓g_tt, ↓g_ff, ↓g_tf, ↓g_ft, ↓g_tnt, ↓g_tnf, ↓g_fnt, ↓g_fnf, hk0, hk2, hk21, hk3]
                    · simp (maxSteps := 4000000) only [go_sem, ↓op_move, ↓op_assign, ↓op_pick, ↓op_alloc, ↓op_box, ↓op_build, ↓op_buildSlice, ↓op_load, ↓op_store, ↓op_nilCheck, ↓op_bin, ↓op_un, ↓op_convert, ↓op_makeFunc, ↓op_makeSlice, ↓op_slice, ↓op_fieldAddr, ↓op_field, ↓op_indexAddr, ↓op_index, ↓op_extract, ↓op_lookup, ↓op_mapUpdate, ↓op_makeMap, ↓op_range, ↓op_next, ↓op_call, ↓op_builtin, ↓g_tt, ↓g_ff, ↓g_tf, ↓g_ft, ↓g_tnt, ↓g_tnf, ↓g_fnt, ↓g_fnf, hk0, hk2, hk21, hk3]
                    · simp (maxSteps := 4000000) only [go_sem, ↓op_move, ↓op_assign, ↓op_pick, ↓op_alloc, ↓op_box, ↓op_build, ↓op_buildSlice, ↓op_load, ↓op_store, ↓op_nilCheck, ↓op_bin, ↓op_un, ↓op_convert, ↓op_makeFunc, ↓op_makeSlice, ↓op_slice, ↓op_fieldAddr, ↓op_field, ↓op_indexAddr, ↓op_index, ↓op_extract, ↓op_lookup, ↓op_mapUpdate, ↓op_makeMap, ↓op_range, ↓op_next, ↓op_call, ↓op_builtin, ↓g_tt, ↓g_ff, ↓g_tf, ↓g_ft, ↓g_tnt, ↓g_tnf, ↓g_fnt, ↓g_fnf, hk0, hk2, hk21, hk3]
                    · simp (maxSteps := 4000000) only [go_sem, ↓op_move, ↓op_assign, ↓op_pick, ↓op_alloc, ↓op_box, ↓op_build, ↓op_buildSlice, ↓op_load, ↓op_store, ↓op_nilCheck, ↓op_bin, ↓op_un, ↓op_convert, ↓op_makeFunc, ↓op_makeSlice, ↓op_slice, ↓op_fieldAddr, ↓op_field, ↓op_indexAddr, ↓op_index, ↓op_extract, ↓op_lookup, ↓op_mapUpdate, ↓op_makeMap, ↓op_range, ↓op_next, ↓op_call, ↓op_builtin, ↓g_tt, ↓g_ff, ↓g_tf, ↓g_ft, ↓g_tnt, ↓g_tnf, ↓g_fnt, ↓g_fnf, hk0, hk2, hk21, hk3]
                    · first | (rw [loop_eta rfl rfl rfl e4 e5]; exact ObjLe.refl _) | (rw [loop_eta e1 e2 e3 e4 e5]; exact ObjLe.refl _)
                  · have q0 : decide (z0 = 0) = false := decide_eq_false h00
                    rw [← hq1]
                    clear hq1
                    simp (maxSteps := 4000000) only [go_sem, ↓op_move, ↓op_assign, ↓op_pick, ↓op_alloc, ↓op_box, ↓op_build, ↓op_buildSlice, ↓op_load, ↓op_store, ↓op_nilCheck, ↓op_bin, ↓op_un, ↓op_convert, ↓op_makeFunc, ↓op_makeSlice, ↓op_slice, ↓op_fieldAddr, ↓op_field, ↓op_indexAddr, ↓op_index, ↓op_extract, ↓op_lookup, ↓op_mapUpdate, ↓op_makeMap, ↓op_range, ↓op_next, ↓op_call, ↓op_builtin, ↓g_tt, ↓g_ff, ↓g_tf, ↓g_ft, ↓g_tnt, ↓g_tnf, ↓g_fnt, ↓g_fnf, hk0, hk2, hk21, hp, hp2, hk3, fd, q0, Bool.false_and]
                    refine ⟨inK_of (by omega) (by omega), inK_of (by omega) (by omega), inK_of (by omega) (by omega), inK_of (by omega) (by omega), inK_of (by omega) (by omega), ⟨by omega, by omega, by omega, by omega⟩, ⟨by omega, by omega, row_ok rfl ones2⟩, by simp only [e1, e2, e3], inK_of (by omega) (by omega), by omega, i + 1, hlt, by omega, ⟨by rw [botT_next hlt, htop], rfl⟩, ?_⟩
                    refine HpLe.upd (HpLe.upd (HpLe.upd (HpLe.upd (HpLe.upd HpLe.none ⟨_, ?_, ObjLe.refl _⟩) ⟨_, ?_, ObjLe.refl _⟩) ⟨_, ?_, ObjLe.refl _⟩) ⟨_, ?_, objLe_arr fun j hj => snoc (f := fun k => [V.int .i64 (stepLo n get sq z0 z1 flat k), V.int .i64 (stepHi n get sq z0 z1 flat k)]) rfl hrow hj⟩) ⟨_, updH_same _ _ _, ?_⟩
                    · simp (maxSteps := 4000000) only [go_sem, ↓op_move, ↓op_assign, ↓op_pick, ↓op_alloc, ↓op_box, ↓op_build, ↓op_buildSlice, ↓op_load, ↓op_store, ↓op_nilCheck, ↓op_bin, ↓op_un, ↓op_convert, ↓op_makeFunc, ↓op_makeSlice, ↓op_slice, ↓op_fieldAddr, ↓op_field, ↓op_indexAddr, ↓op_index, ↓op_extract, ↓op_lookup, ↓op_mapUpdate, ↓op_makeMap, ↓op_range, ↓op_next, ↓op_call, ↓op_builtin, ↓g_tt, ↓g_ff, ↓g_tf, ↓g_ft, ↓g_tnt, ↓g_tnf, ↓g_fnt, ↓g_fnf, hk0, hk2, hk21, hk3]
                    · simp (maxSteps := 4000000) only [go_sem, ↓op_move, ↓op_assign, ↓op_pick, ↓op_alloc, ↓op_box, ↓op_build, ↓op_buildSlice, ↓op_load, ↓op_store, ↓op_nilCheck, ↓op_bin, ↓op_un, ↓op_convert, ↓op_makeFunc, ↓op_makeSlice, ↓op_slice, ↓op_fieldAddr, ↓op_field, ↓op_indexAddr, ↓op_index, ↓op_extract, ↓op_lookup, ↓op_mapUpdate, ↓op_makeMap, ↓op_range, ↓op_next, ↓op_call, ↓op_builtin, ↓g_tt, ↓g_ff, ↓g_tf, ↓g_ft, ↓g_tnt, ↓g_tnf, ↓g_fnt, ↓g_fnf, hk0, hk2, hk21, hk3]
                    · simp (maxSteps := 4000000) only [go_sem, ↓op_move, ↓op_assign, ↓op_pick, ↓op_alloc, ↓op_box, ↓op_build, ↓op_buildSlice, ↓op_load, ↓op_store, ↓op_nilCheck, ↓op_bin, ↓op_un, ↓op_convert, ↓op_makeFunc, ↓op_makeSlice, ↓op_slice, ↓op_fieldAddr, ↓op_field, ↓op_indexAddr, ↓op_index, ↓op_extract, ↓op_lookup, ↓op_mapUpdate, ↓op_makeMap, ↓op_range, ↓op_next, ↓op_call, ↓op_builtin, ↓g_tt, ↓g_ff, ↓g_tf, ↓g_ft, ↓g_tnt, ↓g_tnf, ↓g_fnt, ↓g_fnf, hk0, hk2, hk21, hk3]
                    · simp (maxSteps := 4000000) only [go_sem, ↓op_move, ↓op_assign, ↓op_pick, ↓op_alloc, ↓op_box, ↓op_build, ↓op_buildSlice, ↓op_load, ↓op_store, ↓op_nilCheck, ↓op_bin, ↓op_un, ↓op_convert, ↓op_makeFunc, ↓op_makeSlice, ↓op_slice, ↓op_fieldAddr, ↓op_field, ↓op_indexAddr, ↓op_index, ↓op_extract, ↓op_lookup, ↓op_mapUpdate, ↓op_makeMap, ↓op_range, ↓op_next, ↓op_call, ↓op_builtin, ↓g_tt, ↓g_ff, ↓g_tf, ↓g_ft, ↓g_tnt, ↓g_tnf, ↓g_fnt, ↓g_fnf, hk0, hk2, hk21, hk3]
                    · first | (rw [loop_eta rfl rfl rfl e4 e5]; exact ObjLe.refl _) | (rw [loop_eta e1 e2 e3 e4 e5]; exact ObjLe.refl _)
          · have hd3 : decide ((i : Int) = (n : Int) - 1) = false := by simp; omega
            have htop : topE n get i = botE get i + cell get i 0 := by unfold topE; rw [if_neg (by omega)]
            rw [htop] at hov hov0
            rw [← hq0]
            clear hq0
            simp (maxSteps := 4000000) only [go_sem, ↓op_move, ↓op_assign, ↓op_pick, ↓op_alloc, ↓op_box, ↓op_build, ↓op_buildSlice, ↓op_load, ↓op_store, ↓op_nilCheck, ↓op_bin, ↓op_un, ↓op_convert, ↓op_makeFunc, ↓op_makeSlice, ↓op_slice, ↓op_fieldAddr, ↓op_field, ↓op_indexAddr, ↓op_index, ↓op_extract, ↓op_lookup, ↓op_mapUpdate, ↓op_makeMap, ↓op_range, ↓op_next, ↓op_call, ↓op_builtin, ↓g_tt, ↓g_ff, ↓g_tf, ↓g_ft, ↓g_tnt, ↓g_tnf, ↓g_fnt, ↓g_fnf, hd, hd3, hg, hp, hp2, hk2, hk21, botT_lt hlt]
            refine ⟨by omega, inK_of (by omega) (by omega), inK_of (by omega) (by omega), ?_⟩
            refine YieldT.of rfl (r := r) (by simp [updH]) e4 (by rw [e1]; rfl) e6 (by rw [e2]; exact hd1) (by rw [e3]; exact hd2) hm ?_
            intro kb
            simp (maxSteps := 4000000) only [e1, e2, e3, go_sem, ↓op_move, ↓op_assign, ↓op_pick, ↓op_alloc, ↓op_box, ↓op_build, ↓op_buildSlice, ↓op_load, ↓op_store, ↓op_nilCheck, ↓op_bin, ↓op_un, ↓op_convert, ↓op_makeFunc, ↓op_makeSlice, ↓op_slice, ↓op_fieldAddr, ↓op_field, ↓op_indexAddr, ↓op_index, ↓op_extract, ↓op_lookup, ↓op_mapUpdate, ↓op_makeMap, ↓op_range, ↓op_next, ↓op_call, ↓op_builtin, ↓g_tt, ↓g_ff, ↓g_tf, ↓g_ft, ↓g_tnt, ↓g_tnf, ↓g_fnt, ↓g_fnf, hk0, hk2, hk21, hp, hp2]
            refine RestT.loopI (β := Nat) [15, 44, 45, 46, 47, 48, 49, 50, 51, 52, 53, 54] (fun b => [(13, .int .i64 (if b = 0 then 0 else overE (botE get i) (topE n get i) z0 z1)), (43, .int .i64 b)]) (fun _ => _) (fun b => b ≤ 2) (fun b => 2 - b) 0 (by decide) ?_ (HpLe.refl _) ?_
            · simp (maxSteps := 4000000) only [go_sem, ↓op_move, ↓op_assign, ↓op_pick, ↓op_alloc, ↓op_box, ↓op_build, ↓op_buildSlice, ↓op_load, ↓op_store, ↓op_nilCheck, ↓op_bin, ↓op_un, ↓op_convert, ↓op_makeFunc, ↓op_makeSlice, ↓op_slice, ↓op_fieldAddr, ↓op_field, ↓op_indexAddr, ↓op_index, ↓op_extract, ↓op_lookup, ↓op_mapUpdate, ↓op_makeMap, ↓op_range, ↓op_next, ↓op_call, ↓op_builtin, ↓g_tt, ↓g_ff, ↓g_tf, ↓g_ft, ↓g_tnt, ↓g_tnf, ↓g_fnt, ↓g_fnf]
            · intro ck3 b hck3 hb
              have hk3 : ¬ ck3 = 0 := by omega
              generalize hq1 : exC _ _ _ _ _ = gg1
              have hb3 : b = 0 ∨ b = 1 ∨ b = 2 := by omega
              rcases hb3 with rfl | rfl | rfl
              · rw [← hq1]
                clear hq1
                simp (maxSteps := 4000000) only [go_sem, ↓op_move, ↓op_assign, ↓op_pick, ↓op_alloc, ↓op_box, ↓op_build, ↓op_buildSlice, ↓op_load, ↓op_store, ↓op_nilCheck, ↓op_bin, ↓op_un, ↓op_convert, ↓op_makeFunc, ↓op_makeSlice, ↓op_slice, ↓op_fieldAddr, ↓op_field, ↓op_indexAddr, ↓op_index, ↓op_extract, ↓op_lookup, ↓op_mapUpdate, ↓op_makeMap, ↓op_range, ↓op_next, ↓op_call, ↓op_builtin, ↓g_tt, ↓g_ff, ↓g_tf, ↓g_ft, ↓g_tnt, ↓g_tnf, ↓g_fnt, ↓g_fnf, hk0, hk2, hk21, hp, hp2, hk3, hk3]
                refine ⟨⟨⟨by omega, by omega⟩, ⟨by omega, by omega⟩, ⟨by omega, by omega⟩, by omega, by omega⟩, inK_of (by omega) (by omega), inK_of (by omega) (by omega), by omega, 1, by decide, by decide, ⟨?_, rfl⟩, HpLe.drop2 ?_⟩
                · simp [htop]
                · simp [updH]
              · rw [← hq1]
                clear hq1
                simp (maxSteps := 4000000) only [go_sem, ↓op_move, ↓op_assign, ↓op_pick, ↓op_alloc, ↓op_box, ↓op_build, ↓op_buildSlice, ↓op_load, ↓op_store, ↓op_nilCheck, ↓op_bin, ↓op_un, ↓op_convert, ↓op_makeFunc, ↓op_makeSlice, ↓op_slice, ↓op_fieldAddr, ↓op_field, ↓op_indexAddr, ↓op_index, ↓op_extract, ↓op_lookup, ↓op_mapUpdate, ↓op_makeMap, ↓op_range, ↓op_next, ↓op_call, ↓op_builtin, ↓g_tt, ↓g_ff, ↓g_tf, ↓g_ft, ↓g_tnt, ↓g_tnf, ↓g_fnt, ↓g_fnf, hk0, hk2, hk21, hp, hp2, hk3, hk3]
                refine ⟨⟨⟨by omega, by omega⟩, by omega, by omega⟩, inK_of (by omega) (by omega), inK_of (by omega) (by omega), by omega, 2, by decide, by decide, ⟨?_, rfl⟩, HpLe.drop2 ?_⟩
                · simp [hov0]
                · simp [updH]
              · by_cases hz : z1 - z0 = 0
                · have fd : decide (z1 - z0 = 0) = true := decide_eq_true hz
                  by_cases hij : (i : Int) = (jx : Int)
                  · have fij : decide ((i : Int) = (jx : Int)) = true := decide_eq_true hij
                    have hpe : partE n get z0 z1 flat i = 1 := by unfold partE; rw [if_pos hz, hat, if_pos hij]
                    have hbe : byE z0 z1 = 1 := by unfold byE; rw [if_pos hz]
                    have hrow : [V.int .i64 (stepLo n get sq z0 z1 flat i), V.int .i64 (stepHi n get sq z0 z1 flat i)] = [V.int .i64 (rootE (sq * (1) * (1)) 10000), V.int .i64 (rootUp (sq * (1) * (1)) 10000)] := by
                      unfold stepLo stepHi; rw [hpe, hbe]; rfl
                    by_cases h00 : z0 = 0
                    · have q0 : decide (z0 = 0) = true := decide_eq_true h00
                      have q1 : decide (z1 = 0) = true := decide_eq_true (by omega)
                      rw [← hq1]
                      clear hq1
                      simp (maxSteps := 4000000) only [go_sem, ↓op_move, ↓op_assign, ↓op_pick, ↓op_alloc, ↓op_box, ↓op_build, ↓op_buildSlice, ↓op_load, ↓op_store, ↓op_nilCheck, ↓op_bin, ↓op_un, ↓op_convert, ↓op_makeFunc, ↓op_makeSlice, ↓op_slice, ↓op_fieldAddr, ↓op_field, ↓op_indexAddr, ↓op_index, ↓op_extract, ↓op_lookup, ↓op_mapUpdate, ↓op_makeMap, ↓op_range, ↓op_next, ↓op_call, ↓op_builtin, ↓g_tt, ↓g_ff, ↓g_tf, ↓g_ft, ↓g_tnt, ↓g_tnf, ↓g_fnt, ↓g_fnf, hk0, hk2, hk21, hp, hp2, hk3, fd, fij, q0, q1]
                      refine ⟨inK_of (by omega) (by omega), inK_of (by omega) (by omega), inK_of (by decide) (by decide), inK_of (by decide) (by decide), inK_of (by decide) (by decide), ⟨by omega, by omega⟩, ⟨by omega, by omega, row_ok rfl ones2⟩, by simp only [e1, e2, e3], inK_of (by omega) (by omega), by omega, i + 1, hlt, by omega, ⟨by rw [botT_next hlt, htop], rfl⟩, ?_⟩
                      refine HpLe.upd (HpLe.upd (HpLe.upd (HpLe.upd (HpLe.upd HpLe.none ⟨_, ?_, ObjLe.refl _⟩) ⟨_, ?_, ObjLe.refl _⟩) ⟨_, ?_, ObjLe.refl _⟩) ⟨_, ?_, objLe_arr fun j hj => snoc (f := fun k => [V.int .i64 (stepLo n get sq z0 z1 flat k), V.int .i64 (stepHi n get sq z0 z1 flat k)]) rfl hrow hj⟩) ⟨_, updH_same _ _ _, ?_⟩
                      · simp (maxSteps := 4000000) only [go_sem, ↓op_move, ↓op_assign, ↓op_pick, ↓op_alloc, ↓op_box, ↓op_build, ↓op_buildSlice, ↓op_load, ↓op_store, ↓op_nilCheck, ↓op_bin, ↓op_un, ↓op_convert, ↓op_makeFunc, ↓op_makeSlice, ↓op_slice, ↓op_fieldAddr, ↓op_field, ↓op_indexAddr, ↓op_index, ↓op_extract, ↓op_lookup, ↓op_mapUpdate, ↓op_makeMap, ↓op_range, ↓op_next, ↓op_call, ↓op_builtin, ↓g_tt, ↓g_ff, ↓g_tf, ↓g_ft, ↓g_tnt, ↓g_tnf, ↓g_fnt, ↓g_fnf, hk0, hk2, hk21, hk3]
                      · simp (maxSteps := 4000000) only [go_sem, ↓op_move, ↓op_assign, ↓op_pick, ↓op_alloc, ↓op_box, ↓op_build, ↓op_buildSlice, ↓op_load, ↓op_store, ↓op_nilCheck, ↓op_bin, ↓op_un, ↓op_convert, ↓op_makeFunc, ↓op_makeSlice, ↓op_slice, ↓op_fieldAddr, ↓op_field, ↓op_indexAddr, ↓op_index, ↓op_extract, ↓op_lookup, ↓op_mapUpdate, ↓op_makeMap, ↓op_range, ↓op_next, ↓op_call, ↓op_builtin, ↓g_tt, ↓g_ff, ↓g_tf, ↓g_ft, ↓g_tnt, ↓g_tnf, ↓g_fnt, ↓g_fnf, hk0, hk2, hk21, hk3]
                      · simp (maxSteps := 4000000) only [go_sem, ↓op_move, ↓op_assign, ↓op_pick, ↓op_alloc, ↓op_box, ↓op_build, ↓op_buildSlice, ↓op_load, ↓op_store, ↓op_nilCheck, ↓op_bin, ↓op_un, ↓op_convert, ↓op_makeFunc, ↓op_makeSlice, ↓op_slice, ↓op_fieldAddr, ↓op_field, ↓op_indexAddr, ↓op_index, ↓op_extract, ↓op_lookup, ↓op_mapUpdate, ↓op_makeMap, ↓op_range, ↓op_next, ↓op_call, ↓op_builtin, ↓g_tt, ↓g_ff, ↓g_tf, ↓g_ft, ↓g_tnt, ↓g_tnf, ↓g_fnt, ↓g_fnf, hk0, hk2, hk21, hk3]
                      · simp (maxSteps := 4000000) only [go_sem, ↓op_move, ↓op_assign, ↓op_pick, ↓op_alloc, ↓op_box, ↓op_build, ↓op_buildSlice, ↓op_load, ↓op_store, ↓op_nilCheck, ↓op_bin, ↓op_un, ↓op_convert, ↓op_makeFunc, ↓op_makeSlice, ↓op_slice, ↓op_fieldAddr, ↓op_field, ↓op_indexAddr, ↓op_index, ↓op_extract, ↓op_lookup, ↓op_mapUpdate, ↓op_makeMap, ↓op_range, ↓op_next, ↓op_call, ↓op_builtin, ↓g_tt, ↓g_ff, ↓g_tf, ↓g_ft, ↓g_tnt, ↓g_tnf, ↓g_fnt, ↓g_fnf, hk0, hk2, hk21, hk3]
                      · first | (rw [loop_eta rfl rfl rfl e4 e5]; exact ObjLe.refl _) | (rw [loop_eta e1 e2 e3 e4 e5]; exact ObjLe.refl _)
                    · have q0 : decide (z0 = 0) = false := decide_eq_false h00
                      rw [← hq1]
                      clear hq1
                      simp (maxSteps := 4000000) only [go_sem, ↓op_move, ↓op_assign, ↓op_pick, ↓op_alloc, ↓op_box, ↓op_build, ↓op_buildSlice, ↓op_load, ↓op_store, ↓op_nilCheck, ↓op_bin, ↓op_un, ↓op_convert, ↓op_makeFunc, ↓op_makeSlice, ↓op_slice, ↓op_fieldAddr, ↓op_field, ↓op_indexAddr, ↓op_index, ↓op_extract, ↓op_lookup, ↓op_mapUpdate, ↓op_makeMap, ↓op_range, ↓op_next, ↓op_call, ↓op_builtin, ↓g_tt, ↓g_ff, ↓g_tf, ↓g_ft, ↓g_tnt, ↓g_tnf, ↓g_fnt, ↓g_fnf, hk0, hk2, hk21, hp, hp2, hk3, fd, fij, q0, Bool.false_and]
                      refine ⟨inK_of (by omega) (by omega), inK_of (by omega) (by omega), inK_of (by decide) (by decide), inK_of (by decide) (by decide), inK_of (by decide) (by decide), ⟨by omega, by omega⟩, ⟨by omega, by omega, row_ok rfl ones2⟩, by simp only [e1, e2, e3], inK_of (by omega) (by omega), by omega, i + 1, hlt, by omega, ⟨by rw [botT_next hlt, htop], rfl⟩, ?_⟩
                      refine HpLe.upd (HpLe.upd (HpLe.upd (HpLe.upd (HpLe.upd HpLe.none ⟨_, ?_, ObjLe.refl _⟩) ⟨_, ?_, ObjLe.refl _⟩) ⟨_, ?_, ObjLe.refl _⟩) ⟨_, ?_, objLe_arr fun j hj => snoc (f := fun k => [V.int .i64 (stepLo n get sq z0 z1 flat k), V.int .i64 (stepHi n get sq z0 z1 flat k)]) rfl hrow hj⟩) ⟨_, updH_same _ _ _, ?_⟩
                      · simp (maxSteps := 4000000) only [go_sem, ↓op_move, ↓op_assign, ↓op_pick, ↓op_alloc, ↓op_box, ↓op_build, ↓op_buildSlice, ↓op_load, ↓op_store, ↓op_nilCheck, ↓op_bin, ↓op_un, ↓op_convert, ↓op_makeFunc, ↓op_makeSlice, ↓op_slice, ↓op_fieldAddr, ↓op_field, ↓op_indexAddr, ↓op_index, ↓op_extract, ↓op_lookup, ↓op_mapUpdate, ↓op_makeMap, ↓op_range, ↓op_next, ↓op_call, ↓op_builtin, ↓g_tt, ↓g_ff, ↓g_tf, ↓g_ft, ↓g_tnt, ↓g_tnf, ↓g_fnt, ↓g_fnf, hk0, hk2, hk21, hk3]
                      · simp (maxSteps := 4000000) only [go_sem, ↓op_move, ↓op_assign, ↓op_pick, ↓op_alloc, ↓op_box, ↓op_build, ↓op_buildSlice, ↓op_load, ↓op_store, ↓op_nilCheck, ↓op_bin, ↓op_un, ↓op_convert, ↓op_makeFunc, ↓op_makeSlice, ↓op_slice, ↓op_fieldAddr, ↓op_field, ↓op_indexAddr, ↓op_index, ↓op_extract, ↓op_lookup, ↓op_mapUpdate, ↓op_makeMap, ↓op_range, ↓op_next, ↓op_call, ↓op_builtin, ↓g_tt, ↓g_ff, ↓g_tf, ↓g_ft, ↓g_tnt, ↓g_tnf, ↓g_fnt, ↓g_fnf, hk0, hk2, hk21, hk3]
                      · simp (maxSteps := 4000000) only [go_sem, ↓op_move, ↓op_assign, ↓op_pick, ↓op_alloc, ↓op_box, ↓op_build, ↓op_buildSlice, ↓op_load, ↓op_store, ↓op_nilCheck, ↓op_bin, ↓op_un, ↓op_convert, ↓op_makeFunc, ↓op_makeSlice, ↓op_slice, ↓op_fieldAddr, ↓op_field, ↓op_indexAddr, ↓op_index, ↓op_extract, ↓op_lookup, ↓op_mapUpdate, ↓op_makeMap, ↓op_range, ↓op_next, ↓op_call, ↓op_builtin, ↓g_tt, ↓g_ff, ↓g_tf, ↓g_ft, ↓g_tnt, ↓g_tnf, ↓g_fnt, ↓g_fnf, hk0, hk2, hk21, hk3]
                      · simp (maxSteps := 4000000) only [go_sem, ↓op_move, ↓op_assign, ↓op_pick, ↓op_alloc, ↓op_box, ↓op_build, ↓op_buildSlice, ↓op_load, ↓op_store, ↓op_nilCheck, ↓op_bin, ↓op_un, ↓op_convert, ↓op_makeFunc, ↓op_makeSlice, ↓op_slice, ↓op_fieldAddr, ↓op_field, ↓op_indexAddr, ↓op_index, ↓op_extract, ↓op_lookup, ↓op_mapUpdate, ↓op_makeMap, ↓op_range, ↓op_next, ↓op_call, ↓op_builtin, ↓g_tt, ↓g_ff, ↓g_tf, ↓g_ft, ↓g_tnt, ↓g_tnf, ↓g_fnt, ↓g_fnf, hk0, hk2, hk21, hk3]
                      · first | (rw [loop_eta rfl rfl rfl e4 e5]; exact ObjLe.refl _) | (rw [loop_eta e1 e2 e3 e4 e5]; exact ObjLe.refl _)
                  · have fij : decide ((i : Int) = (jx : Int)) = false := decide_eq_false hij
                    have hpe : partE n get z0 z1 flat i = 0 := by unfold partE; rw [if_pos hz, hat, if_neg hij]
                    have hbe : byE z0 z1 = 1 := by unfold byE; rw [if_pos hz]
                    have hrow : [V.int .i64 (stepLo n get sq z0 z1 flat i), V.int .i64 (stepHi n get sq z0 z1 flat i)] = [V.int .i64 (rootE (sq * (0) * (0)) 10000), V.int .i64 (rootUp (sq * (0) * (0)) 10000)] := by
                      unfold stepLo stepHi; rw [hpe, hbe]; rfl
                    by_cases h00 : z0 = 0
                    · have q0 : decide (z0 = 0) = true := decide_eq_true h00
                      have q1 : decide (z1 = 0) = true := decide_eq_true (by omega)
                      rw [← hq1]
                      clear hq1
                      simp (maxSteps := 4000000) only [go_sem, ↓op_move, ↓op_assign, ↓op_pick, ↓op_alloc, ↓op_box, ↓op_build, ↓op_buildSlice, ↓op_load, ↓op_store, ↓op_nilCheck, ↓op_bin, ↓op_un, ↓op_convert, ↓op_makeFunc, ↓op_makeSlice, ↓op_slice, ↓op_fieldAddr, ↓op_field, ↓op_indexAddr, ↓op_index, ↓op_extract, ↓op_lookup, ↓op_mapUpdate, ↓op_makeMap, ↓op_range, ↓op_next, ↓op_call, ↓op_builtin, ↓g_tt, ↓g_ff, ↓g_tf, ↓g_ft, ↓g_tnt, ↓g_tnf, ↓g_fnt, ↓g_fnf, hk0, hk2, hk21, hp, hp2, hk3, fd, fij, q0, q1]
                      refine ⟨inK_of (by omega) (by omega), inK_of (by omega) (by omega), inK_of (by decide) (by decide), inK_of (by decide) (by decide), inK_of (by decide) (by decide), ⟨by omega, by omega⟩, ⟨by omega, by omega, row_ok rfl ones2⟩, by simp only [e1, e2, e3], inK_of (by omega) (by omega), by omega, i + 1, hlt, by omega, ⟨by rw [botT_next hlt, htop], rfl⟩, ?_⟩
                      refine HpLe.upd (HpLe.upd (HpLe.upd (HpLe.upd (HpLe.upd HpLe.none ⟨_, ?_, ObjLe.refl _⟩) ⟨_, ?_, ObjLe.refl _⟩) ⟨_, ?_, ObjLe.refl _⟩) ⟨_, ?_, objLe_arr fun j hj => snoc (f := fun k => [V.int .i64 (stepLo n get sq z0 z1 flat k), V.int .i64 (stepHi n get sq z0 z1 flat k)]) rfl hrow hj⟩) ⟨_, updH_same _ _ _, ?_⟩
                      · simp (maxSteps := 4000000) only [go_sem, ↓op_move, ↓op_assign, ↓op_pick, ↓op_alloc, ↓op_box, ↓op_build, ↓op_buildSlice, ↓op_load, ↓op_store, ↓op_nilCheck, ↓op_bin, ↓op_un, ↓op_convert, ↓op_makeFunc, ↓op_makeSlice, ↓op_slice, ↓op_fieldAddr, ↓op_field, ↓op_indexAddr, ↓op_index, ↓op_extract, ↓op_lookup, ↓op_mapUpdate, ↓op_makeMap, ↓op_range, ↓op_next, ↓op_call, ↓op_builtin, ↓g_tt, ↓g_ff, ↓g_tf, ↓g_ft, ↓g_tnt, ↓g_tnf, ↓g_fnt, ↓g_fnf, hk0, hk2, hk21, hk3]
                      · simp (maxSteps := 4000000) only [go_sem, ↓op_move, ↓op_assign, ↓op_pick, ↓op_alloc, ↓op_box, ↓op_build, ↓op_buildSlice, ↓op_load, ↓op_store, ↓op_nilCheck, ↓op_bin, ↓op_un, ↓op_convert, ↓op_makeFunc, ↓op_makeSlice, ↓op_slice, ↓op_fieldAddr, ↓op_field, ↓op_indexAddr, ↓op_index, ↓op_extract, ↓op_lookup, ↓op_mapUpdate, ↓op_makeMap, ↓op_range, ↓op_next, ↓op_call, ↓op_builtin, ↓g_tt, ↓g_ff, ↓g_tf, ↓g_ft, ↓g_tnt, ↓g_tnf, ↓g_fnt, ↓g_fnf, hk0, hk2, hk21, hk3]
                      · simp (maxSteps := 4000000) only [go_sem, ↓op_move, ↓op_assign, ↓op_pick, ↓op_alloc, ↓op_box, ↓op_build, ↓op_buildSlice, ↓op_load, ↓op_store, ↓op_nilCheck, ↓op_bin, ↓op_un, ↓op_convert, ↓op_makeFunc, ↓op_makeSlice, ↓op_slice, ↓op_fieldAddr, ↓op_field, ↓op_indexAddr, ↓op_index, ↓op_extract, ↓op_lookup, ↓op_mapUpdate, ↓op_makeMap, ↓op_range, ↓op_next, ↓op_call, ↓op_builtin, ↓g_tt, ↓g_ff, ↓g_tf, ↓g_ft, ↓g_tnt, ↓g_tnf, ↓g_fnt, ↓g_fnf, hk0, hk2, hk21, hk3]
                      · simp (maxSteps := 4000000) only [go_sem, ↓op_move, ↓op_assign, ↓op_pick, ↓op_alloc, ↓op_box, ↓op_build, ↓op_buildSlice, ↓op_load, ↓op_store, ↓op_nilCheck, ↓op_bin, ↓op_un, ↓op_convert, ↓op_makeFunc, ↓op_makeSlice, ↓op_slice, ↓op_fieldAddr, ↓op_field, ↓op_indexAddr, ↓op_index, ↓op_extract, ↓op_lookup, ↓op_mapUpdate, ↓op_makeMap, ↓op_range, ↓op_next, ↓op_call, ↓op_builtin, ↓g_tt, ↓g_ff, ↓g_tf, ↓g_ft, ↓g_tnt, ↓g_tnf, ↓g_fnt, ↓g_fnf, hk0, hk2, hk21, hk3]
                      · first | (rw [loop_eta rfl rfl rfl e4 e5]; exact ObjLe.refl _) | (rw [loop_eta e1 e2 e3 e4 e5]; exact ObjLe.refl _)
                    · have q0 : decide (z0 = 0) = false := decide_eq_false h00
                      rw [← hq1]
                      clear hq1
                      simp (maxSteps := 4000000) only [go_sem, ↓op_move, ↓op_assign, ↓op_pick, ↓op_alloc, ↓op_box, ↓op_build, ↓op_buildSlice, ↓op_load, ↓op_store, ↓op_nilCheck, ↓op_bin, ↓op_un, ↓op_convert, ↓op_makeFunc, ↓op_makeSlice, ↓op_slice, ↓op_fieldAddr, ↓op_field, ↓op_indexAddr, ↓op_index, ↓op_extract, ↓op_lookup, ↓op_mapUpdate, ↓op_makeMap, ↓op_range, ↓op_next, ↓op_call, ↓op_builtin, ↓g_tt, ↓g_ff, ↓g_tf, ↓g_ft, ↓g_tnt, ↓g_tnf, ↓g_fnt, ↓g_fnf, hk0, hk2, hk21, hp, hp2, hk3, fd, fij, q0, Bool.false_and]
                      refine ⟨inK_of (by omega) (by omega), inK_of (by omega) (by omega), inK_of (by decide) (by decide), inK_of (by decide) (by decide), inK_of (by decide) (by decide), ⟨by omega, by omega⟩, ⟨by omega, by omega, row_ok rfl ones2⟩, by simp only [e1, e2, e3], inK_of (by omega) (by omega), by omega, i + 1, hlt, by omega, ⟨by rw [botT_next hlt, htop], rfl⟩, ?_⟩
                      refine HpLe.upd (HpLe.upd (HpLe.upd (HpLe.upd (HpLe.upd HpLe.none ⟨_, ?_, ObjLe.refl _⟩) ⟨_, ?_, ObjLe.refl _⟩) ⟨_, ?_, ObjLe.refl _⟩) ⟨_, ?_, objLe_arr fun j hj => snoc (f := fun k => [V.int .i64 (stepLo n get sq z0 z1 flat k), V.int .i64 (stepHi n get sq z0 z1 flat k)]) rfl hrow hj⟩) ⟨_, updH_same _ _ _, ?_⟩
                      · simp (maxSteps := 4000000) only [go_sem, ↓op_move, ↓op_assign, ↓op_pick, ↓op_alloc, ↓op_box, ↓op_build, ↓op_buildSlice, ↓op_load, ↓op_store, ↓op_nilCheck, ↓op_bin, ↓op_un, ↓op_convert, ↓op_makeFunc, ↓op_makeSlice, ↓op_slice, ↓op_fieldAddr, ↓op_field, ↓op_indexAddr, ↓op_index, ↓op_extract, ↓op_lookup, ↓op_mapUpdate, ↓op_makeMap, ↓op_range, ↓op_next, ↓op_call, ↓op_builtin, ↓g_tt, ↓g_ff, ↓g_tf, ↓g_ft, ↓g_tnt, ↓g_tnf, ↓g_fnt, ↓g_fnf, hk0, hk2, hk21, hk3]
                      · simp (maxSteps := 4000000) only [go_sem, ↓op_move, ↓op_assign, ↓op_pick, ↓op_alloc, ↓op_box, ↓op_build, ↓op_buildSlice, ↓op_load, ↓op_store, ↓op_nilCheck, ↓op_bin, ↓op_un, ↓op_convert, ↓op_makeFunc, ↓op_makeSlice, ↓op_slice, ↓op_fieldAddr, ↓op_field, ↓op_indexAddr, ↓op_index, ↓op_extract, ↓op_lookup, ↓op_mapUpdate, ↓op_makeMap, ↓op_range, ↓op_next, ↓op_call, ↓op_builtin, ↓g_tt, ↓g_ff, ↓g_tf, ↓g_ft, ↓g_tnt, ↓g_tnf, ↓g_fnt, ↓g_fnf, hk0, hk2, hk21, hk3]
                      · simp (maxSteps := 4000000) only [go_sem, ↓op_move, ↓op_assign, ↓op_pick, ↓op_alloc, ↓op_box, ↓op_build, ↓op_buildSlice, ↓op_load, ↓op_store, ↓op_nilCheck, ↓op_bin, ↓op_un, ↓op_convert, ↓op_makeFunc, ↓op_makeSlice, ↓op_slice, ↓op_fieldAddr, ↓op_field, ↓op_indexAddr, ↓op_index, ↓op_extract, ↓op_lookup, ↓op_mapUpdate, ↓op_makeMap, ↓op_range, ↓op_next, ↓op_call, ↓op_builtin, ↓g_tt, ↓g_ff, ↓g_tf, ↓g_ft, ↓g_tnt, ↓g_tnf, ↓g_fnt, ↓g_fnf, hk0, hk2, hk21, hk3]
                      · simp (maxSteps := 4000000) only [go_sem, ↓op_move, ↓op_assign, ↓op_pick, ↓op_alloc, ↓op_box, ↓op_build, ↓op_buildSlice, ↓op_load, ↓op_store, ↓op_nilCheck, ↓op_bin, ↓op_un, ↓op_convert, ↓op_makeFunc, ↓op_makeSlice, ↓op_slice, ↓op_fieldAddr, ↓op_field, ↓op_indexAddr, ↓op_index, ↓op_extract, ↓op_lookup, ↓op_mapUpdate, ↓op_makeMap, ↓op_range, ↓op_next, ↓op_call, ↓op_builtin, ↓g_tt, ↓g_ff, ↓g_tf, ↓g_ft, ↓g_tnt, ↓g_tnf, ↓g_fnt, ↓g_fnf, hk0, hk2, hk21, hk3]
                      · first | (rw [loop_eta rfl rfl rfl e4 e5]; exact ObjLe.refl _) | (rw [loop_eta e1 e2 e3 e4 e5]; exact ObjLe.refl _)
                · have fd : decide (z1 - z0 = 0) = false := decide_eq_false hz
                  have hpe : partE n get z0 z1 flat i = overE (botE get i) (topE n get i) z0 z1 := by unfold partE; rw [if_neg hz]
                  have hbe : byE z0 z1 = z1 - z0 := by unfold byE; rw [if_neg hz]
                  have hrow : [V.int .i64 (stepLo n get sq z0 z1 flat i), V.int .i64 (stepHi n get sq z0 z1 flat i)] = [V.int .i64 (rootE (sq * (overE (botE get i) (topE n get i) z0 z1) * (overE (botE get i) (topE n get i) z0 z1)) ((z1 - z0) * (z1 - z0) * 100 * 100)), V.int .i64 (rootUp (sq * (overE (botE get i) (topE n get i) z0 z1) * (overE (botE get i) (topE n get i) z0 z1)) ((z1 - z0) * (z1 - z0) * 100 * 100))] := by
                    unfold stepLo stepHi; rw [hpe, hbe]
                  have b1 := mul_le_of hsq.1 hsq.2 hovT.1 (show overE (botE get i) (topE n get i) z0 z1 ≤ 10000 by omega)
                  have b2 := mul_le_of b1.1 b1.2 hovT.1 (show overE (botE get i) (topE n get i) z0 z1 ≤ 10000 by omega)
                  have b3 := mul_le_of (a := z1 - z0) (b := z1 - z0) (A := 10000) (B := 10000) (by omega) (by omega) (by omega) (by omega)
                  have b4 := Int.mul_pos (show 0 < z1 - z0 by omega) (show 0 < z1 - z0 by omega)
                  by_cases h00 : z0 = 0
                  · have q0 : decide (z0 = 0) = true := decide_eq_true h00
                    have q1 : decide (z1 = 0) = false := decide_eq_false (by omega)
                    rw [← hq1]
                    clear hq1
                    simp (maxSteps := 4000000) only [go_sem, ↓op_move, ↓op_assign, ↓op_pick, ↓op_alloc, ↓op_box, ↓op_build, ↓op_buildSlice, ↓op_load, ↓op_store, ↓op_nilCheck, ↓op_bin, ↓op_un, ↓op_convert, ↓op_makeFunc, ↓op_makeSlice, ↓op_slice, ↓op_fieldAddr, ↓op_field, ↓op_indexAddr, ↓op_index, ↓op_extract, ↓op_lookup, ↓op_mapUpdate, ↓op_makeMap, ↓op_range, ↓op_next, ↓op_call, ↓op_builtin, ↓g_tt, ↓g_ff, ↓g_tf, ↓g_ft, ↓g_tnt, ↓g_tnf, ↓g_fnt, ↓g_fnf, hk0, hk2, hk21, hp, hp2, hk3, fd, q0, q1]
                    refine ⟨inK_of (by omega) (by omega), inK_of (by omega) (by omega), inK_of (by omega) (by omega), inK_of (by omega) (by omega), inK_of (by omega) (by omega), ⟨by omega, by omega, by omega, by omega⟩, ⟨by omega, by omega, row_ok rfl ones2⟩, by simp only [e1, e2, e3], inK_of (by omega) (by omega), by omega, i + 1, hlt, by omega, ⟨by rw [botT_next hlt, htop], rfl⟩, ?_⟩
                    refine HpLe.upd (HpLe.upd (HpLe.upd (HpLe.upd (HpLe.upd HpLe.none ⟨_, ?_, ObjLe.refl _⟩) ⟨_, ?_, ObjLe.refl _⟩) ⟨_, ?_, ObjLe.refl _⟩) ⟨_, ?_, objLe_arr fun j hj => snoc (f := fun k => [V.int .i64 (stepLo n get sq z0 z1 flat k), V.int .i64 (stepHi n get sq z0 z1 flat k)]) rfl hrow hj⟩) ⟨_, updH_same _ _ _, ?_⟩
                    · simp (maxSteps := 4000000) only [go_sem, ↓op_move, ↓op_assign, ↓op_pick, ↓op_alloc, ↓op_box, ↓op_build, ↓op_buildSlice, ↓op_load, ↓op_store, ↓op_nilCheck, ↓op_bin, ↓op_un, ↓op_convert, ↓op_makeFunc, ↓op_makeSlice, ↓op_slice, ↓op_fieldAddr, ↓op_field, ↓op_indexAddr, ↓op_index, ↓op_extract, ↓op_lookup, ↓op_mapUpdate, ↓op_makeMap, ↓op_range, ↓op_next, ↓op_call, ↓op_builtin, ↓g_tt, ↓g_ff, ↓g_tf, ↓g_ft, ↓g_tnt, ↓g_tnf, ↓g_fnt, ↓g_fnf, hk0, hk2, hk21, hk3]
                    · simp (maxSteps := 4000000) only [go_sem, ↓op_move, ↓op_assign, ↓op_pick, ↓op_alloc, ↓op_box, ↓op_build, ↓op_buildSlice, ↓op_load, ↓op_store, ↓op_nilCheck, ↓op_bin, ↓op_un, ↓op_convert, ↓op_makeFunc, ↓op_makeSlice, ↓op_slice, ↓op_fieldAddr, ↓op_field, ↓op_indexAddr, ↓op_index, ↓op_extract, ↓op_lookup, ↓op_mapUpdate, ↓op_makeMap, ↓op_range, ↓op_next, ↓op_call, ↓op_builtin, ↓g_tt, ↓g_ff, ↓g_tf, ↓g_ft, ↓g_tnt, ↓g_tnf, ↓g_fnt, ↓g_fnf, hk0, hk2, hk21, hk3]
                    · simp (maxSteps := 4000000) only [go_sem, ↓op_move, ↓op_assign, ↓op_pick, ↓op_alloc, ↓op_box, ↓op_build, ↓op_buildSlice, ↓op_load, ↓op_store, ↓op_nilCheck, ↓op_bin, ↓op_un, ↓op_convert, ↓op_makeFunc, ↓op_makeSlice, ↓op_slice, ↓op_fieldAddr, ↓op_field, ↓op_indexAddr, ↓op_index, ↓op_extract, ↓op_lookup, ↓op_mapUpdate, ↓op_makeMap, ↓op_range, ↓op_next, ↓op_call, ↓op_builtin, ↓g_tt, ↓g_ff, ↓g_tf, ↓g_ft, ↓g_tnt, ↓g_tnf, ↓g_fnt, ↓g_fnf, hk0, hk2, hk21, hk3]
                    · simp (maxSteps := 4000000) only [go_sem, ↓op_move, ↓op_assign, ↓op_pick, ↓op_alloc, ↓op_box, ↓op_build, ↓op_buildSlice, ↓op_load, ↓op_store, ↓op_nilCheck, ↓op_bin, ↓op_un, ↓op_convert, ↓op_makeFunc, ↓op_makeSlice, ↓op_slice, ↓op_fieldAddr, ↓op_field, ↓op_indexAddr, ↓op_index, ↓op_extract, ↓op_lookup, ↓op_mapUpdate, ↓op_makeMap, ↓op_range, ↓op_next, ↓op_call, ↓op_builtin, ↓g_tt, ↓g_ff, ↓g_tf, ↓g_ft, ↓g_tnt, ↓g_tnf, ↓g_fnt, ↓g_fnf, hk0, hk2, hk21, hk3]
                    · first | (rw [loop_eta rfl rfl rfl e4 e5]; exact ObjLe.refl _) | (rw [loop_eta e1 e2 e3 e4 e5]; exact ObjLe.refl _)
                  · have q0 : decide (z0 = 0) = false := decide_eq_false h00
                    rw [← hq1]
                    clear hq1
                    simp (maxSteps := 4000000) only [go_sem, ↓op_move, ↓op_assign, ↓op_pick, ↓op_alloc, ↓op_box, ↓op_build, ↓op_buildSlice, ↓op_load, ↓op_store, ↓op_nilCheck, ↓op_bin, ↓op_un, ↓op_convert, ↓op_makeFunc, ↓op_makeSlice, ↓op_slice, ↓op_fieldAddr, ↓op_field, ↓op_indexAddr, ↓op_index, ↓op_extract, ↓op_lookup, ↓op_mapUpdate, ↓op_makeMap, ↓op_range, ↓op_next, ↓op_call, ↓op_builtin, ↓g_tt, ↓g_ff, ↓g_tf, ↓g_ft, ↓g_tnt, ↓g_tnf, ↓g_fnt, ↓g_fnf, hk0, hk2, hk21, hp, hp2, hk3, fd, q0, Bool.false_and]
                    refine ⟨inK_of (by omega) (by omega), inK_of (by omega) (by omega), inK_of (by omega) (by omega), inK_of (by omega) (by omega), inK_of (by omega) (by omega), ⟨by omega, by omega, by omega, by omega⟩, ⟨by omega, by omega, row_ok rfl ones2⟩, by simp only [e1, e2, e3], inK_of (by omega) (by omega), by omega, i + 1, hlt, by omega, ⟨by rw [botT_next hlt, htop], rfl⟩, ?_⟩
                    refine HpLe.upd (HpLe.upd (HpLe.upd (HpLe.upd (HpLe.upd HpLe.none ⟨_, ?_, ObjLe.refl _⟩) ⟨_, ?_, ObjLe.refl _⟩) ⟨_, ?_, ObjLe.refl _⟩) ⟨_, ?_, objLe_arr fun j hj => snoc (f := fun k => [V.int .i64 (stepLo n get sq z0 z1 flat k), V.int .i64 (stepHi n get sq z0 z1 flat k)]) rfl hrow hj⟩) ⟨_, updH_same _ _ _, ?_⟩
                    · simp (maxSteps := 4000000) only [go_sem, ↓op_move, ↓op_assign, ↓op_pick, ↓op_alloc, ↓op_box, ↓op_build, ↓op_buildSlice, ↓op_load, ↓op_store, ↓op_nilCheck, ↓op_bin, ↓op_un, ↓op_convert, ↓op_makeFunc, ↓op_makeSlice, ↓op_slice, ↓op_fieldAddr, ↓op_field, ↓op_indexAddr, ↓op_index, ↓op_extract, ↓op_lookup, ↓op_mapUpdate, ↓op_makeMap, ↓op_range, ↓op_next, ↓op_call, ↓op_builtin, ↓g_tt, ↓g_ff, ↓g_tf, ↓g_ft, ↓g_tnt, ↓g_tnf, ↓g_fnt, ↓g_fnf, hk0, hk2, hk21, hk3]
                    · simp (maxSteps := 4000000) only [go_sem, ↓op_move, ↓op_assign, ↓op_pick, ↓op_alloc, ↓op_box, ↓op_build, ↓op_buildSlice, ↓op_load, ↓op_store, ↓op_nilCheck, ↓op_bin, ↓op_un, ↓op_convert, ↓op_makeFunc, ↓op_makeSlice, ↓op_slice, ↓op_fieldAddr, ↓op_field, ↓op_indexAddr, ↓op_index, ↓op_extract, ↓op_lookup, ↓op_mapUpdate, ↓op_makeMap, ↓op_range, ↓op_next, ↓op_call, ↓op_builtin, ↓g_tt, ↓g_ff, ↓g_tf, ↓g_ft, ↓g_tnt, ↓g_tnf, ↓g_fnt, ↓g_fnf, hk0, hk2, hk21, hk3]
                    · simp (maxSteps := 4000000) only [go_sem, ↓op_move, ↓op_assign, ↓op_pick, ↓op_alloc, ↓op_box, ↓op_build, ↓op_buildSlice, ↓op_load, ↓op_store, ↓op_nilCheck, ↓op_bin, ↓op_un, ↓op_convert, ↓op_makeFunc, ↓op_makeSlice, ↓op_slice, ↓op_fieldAddr, ↓op_field, ↓op_indexAddr, ↓op_index, ↓op_extract, ↓op_lookup, ↓op_mapUpdate, ↓op_makeMap, ↓op_range, ↓op_next, ↓op_call, ↓op_builtin, ↓g_tt, ↓g_ff, ↓g_tf, ↓g_ft, ↓g_tnt, ↓g_tnf, ↓g_fnt, ↓g_fnf, hk0, hk2, hk21, hk3]
                    · simp (maxSteps := 4000000) only [go_sem, ↓op_move, ↓op_assign, ↓op_pick, ↓op_alloc, ↓op_box, ↓op_build, ↓op_buildSlice, ↓op_load, ↓op_store, ↓op_nilCheck, ↓op_bin, ↓op_un, ↓op_convert, ↓op_makeFunc, ↓op_makeSlice, ↓op_slice, ↓op_fieldAddr, ↓op_field, ↓op_indexAddr, ↓op_index, ↓op_extract, ↓op_lookup, ↓op_mapUpdate, ↓op_makeMap, ↓op_range, ↓op_next, ↓op_call, ↓op_builtin, ↓g_tt, ↓g_ff, ↓g_tf, ↓g_ft, ↓g_tnt, ↓g_tnf, ↓g_fnt, ↓g_fnf, hk0, hk2, hk21, hk3]
                    · first | (rw [loop_eta rfl rfl rfl e4 e5]; exact ObjLe.refl _) | (rw [loop_eta e1 e2 e3 e4 e5]; exact ObjLe.refl _)
        · have hd : decide ((i : Int) < (n : Int)) = false := by simp; omega
          rw [← hq0]
          clear hq0
          simp (maxSteps := 4000000) only [go_sem, ↓op_move, ↓op_assign, ↓op_pick, ↓op_alloc, ↓op_box, ↓op_build, ↓op_buildSlice, ↓op_load, ↓op_store, ↓op_nilCheck, ↓op_bin, ↓op_un, ↓op_convert, ↓op_makeFunc, ↓op_makeSlice, ↓op_slice, ↓op_fieldAddr, ↓op_field, ↓op_indexAddr, ↓op_index, ↓op_extract, ↓op_lookup, ↓op_mapUpdate, ↓op_makeMap, ↓op_range, ↓op_next, ↓op_call, ↓op_builtin, ↓g_tt, ↓g_ff, ↓g_tf, ↓g_ft, ↓g_tnt, ↓g_tnf, ↓g_fnt, ↓g_fnf, hd, e4, e5]
          obtain rfl : i = n := by omega
          rw [if_pos (by omega)]
          exact VEnt.sl fun j hj => by rw [Nat.zero_add]; first | done | exact frzRow_pu fun v hv => (ones2 v hv).1 | exact frzRow_pu fun v hv => (ones1 v hv).1 | exact frzRow_sl hp3 hj | exact frzRow_sl hp hj
end Go.Fly.Tryz
