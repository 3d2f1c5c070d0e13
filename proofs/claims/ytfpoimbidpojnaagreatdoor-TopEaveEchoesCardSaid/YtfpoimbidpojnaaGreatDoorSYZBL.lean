/- The air: layers that are placed, the layer at a height. -/
import Derived.Test.YtfpoimbidpojnaaGreatDoorSYZBK
import Derived.Test.YtfpoimbidpojnaaGreatDoorAJ
set_option linter.unusedSimpArgs false
set_option linter.unusedVariables false
set_option maxRecDepth 100000
set_option maxHeartbeats 1000000
namespace Go.Fly.Tryz
open Go

theorem aAt_ok : Holds Proofs.Tryz.prog G0 58 atC := by
  refine Holds.of_exC D58 Proofs.Tryz.func58 rfl foll (by kernel_rfl) (tab [(59, placedC 90), (iceKey 3, iceC)]) (tab_ok ⟨aPlaced_ok, ice_holds, trivial⟩) G0_ok fun k0 rl args hpu hpre => ?_
  unfold atC at hpre ⊢
  split at hpre
  rotate_left
  · exact hpre.elim
  rename_i n sz get h
  obtain ⟨rfl, hair, hok, hh0, hh1⟩ := hpre
  have hp := hair.pu
  simp only [Proofs.Tryz.f58]
  simp (maxSteps := 4000000) only [go_sem, ↓op_move, ↓op_assign, ↓op_pick, ↓op_alloc, ↓op_box, ↓op_build, ↓op_buildSlice, ↓op_load, ↓op_store, ↓op_nilCheck, ↓op_bin, ↓op_un, ↓op_convert, ↓op_makeFunc, ↓op_makeSlice, ↓op_slice, ↓op_fieldAddr, ↓op_field, ↓op_indexAddr, ↓op_index, ↓op_extract, ↓op_lookup, ↓op_mapUpdate, ↓op_makeMap, ↓op_range, ↓op_next, ↓op_call, ↓op_builtin, ↓g_tt, ↓g_ff, ↓g_tf, ↓g_ft, ↓g_tnt, ↓g_tnf, ↓g_fnt, ↓g_fnf, hp]
  refine ⟨hair, ?_⟩
  refine RestT.rangeFunc2 rfl (f := 90) (fn := Proofs.Tryz.f90) rfl en90 Proofs.Tryz.func90 rfl (fun L => by simp [updH]) (Dc := D90) (by kernel_rfl) ?_
  intro L r k1 e1 e2 e3 e4 e5 e6 hm hd1 hd2
  simp (maxSteps := 4000000) only [go_sem, ↓op_move, ↓op_assign, ↓op_pick, ↓op_alloc, ↓op_box, ↓op_build, ↓op_buildSlice, ↓op_load, ↓op_store, ↓op_nilCheck, ↓op_bin, ↓op_un, ↓op_convert, ↓op_makeFunc, ↓op_makeSlice, ↓op_slice, ↓op_fieldAddr, ↓op_field, ↓op_indexAddr, ↓op_index, ↓op_extract, ↓op_lookup, ↓op_mapUpdate, ↓op_makeMap, ↓op_range, ↓op_next, ↓op_call, ↓op_builtin, ↓g_tt, ↓g_ff, ↓g_tf, ↓g_ft, ↓g_tnt, ↓g_tnf, ↓g_fnt, ↓g_fnf, Proofs.Tryz.f90]
  refine RestT.loopI (β := Nat) [4, 5, 6, 10, 11, 12, 13, 14, 15, 16, 17, 18, 19, 20, 21, 22, 23, 24, 25, 26, 27, 28, 29, 30, 31, 32] (fun i => [(3, .int .i64 (botT n get i)), (9, .int .i64 i)]) (fun i => updH (updH (updH (updH (fun _ => none) (2, 5) (.cells [.int .i64 0, .int .i64 0, .int .i64 0, .int .i64 0, .nils, .int .i64 0, .int .i64 0])) (3, 6) (.cells [.int .i64 0, .int .i64 0, .int .i64 0, .int .i64 0, .nils, .int .i64 0, .int .i64 0])) (4, 7) (.cells [.int .i64 0])) (0, L) (.raw (.loop r)))
    (fun i => i ≤ n ∧ ∀ j, j < i → ¬ h < topE n get j) (fun i => n - i) 0 ⟨Nat.zero_le _, fun j hj => by omega⟩ ?_ ?_ ?_
  · simp (maxSteps := 4000000) only [go_sem, ↓op_move, ↓op_assign, ↓op_pick, ↓op_alloc, ↓op_box, ↓op_build, ↓op_buildSlice, ↓op_load, ↓op_store, ↓op_nilCheck, ↓op_bin, ↓op_un, ↓op_convert, ↓op_makeFunc, ↓op_makeSlice, ↓op_slice, ↓op_fieldAddr, ↓op_field, ↓op_indexAddr, ↓op_index, ↓op_extract, ↓op_lookup, ↓op_mapUpdate, ↓op_makeMap, ↓op_range, ↓op_next, ↓op_call, ↓op_builtin, ↓g_tt, ↓g_ff, ↓g_tf, ↓g_ft, ↓g_tnt, ↓g_tnf, ↓g_fnt, ↓g_fnf]
    rw [botT_lt hok.cnt.1]; rfl
  · refine HpLe.upd (HpLe.upd (HpLe.upd (HpLe.upd HpLe.none ⟨_, ?_, ObjLe.refl _⟩) ⟨_, ?_, ObjLe.refl _⟩) ⟨_, ?_, ObjLe.refl _⟩) ⟨_, ?_, ObjLe.refl _⟩ <;> simp [updH]
  · intro ck i hck hI
    have hi := hI.1
    have hno := hI.2
    generalize hq0 : exC _ _ _ _ _ = gg
    by_cases hlt : i < n
    · have hd : decide ((i : Int) < (n : Int)) = true := by simp; omega
      obtain ⟨hg, hiv⟩ := hair.2 i hlt
      have hp2 := hiv.pu
      have hk0 : ¬ ck = 0 := by omega
      have hbt := bot_bd hok (i := i) (by omega)
      have hth := hok.th i hlt
      have hn8 := hok.cnt
      by_cases hl : i + 1 = n
      · have hd3 : decide ((i : Int) = (n : Int) - 1) = true := by simp; omega
        have htop : topE n get i = 1099511627776 := by unfold topE; rw [if_pos (by omega)]
        rw [← hq0]
        clear hq0
        simp (maxSteps := 4000000) only [go_sem, ↓op_move, ↓op_assign, ↓op_pick, ↓op_alloc, ↓op_box, ↓op_build, ↓op_buildSlice, ↓op_load, ↓op_store, ↓op_nilCheck, ↓op_bin, ↓op_un, ↓op_convert, ↓op_makeFunc, ↓op_makeSlice, ↓op_slice, ↓op_fieldAddr, ↓op_field, ↓op_indexAddr, ↓op_index, ↓op_extract, ↓op_lookup, ↓op_mapUpdate, ↓op_makeMap, ↓op_range, ↓op_next, ↓op_call, ↓op_builtin, ↓g_tt, ↓g_ff, ↓g_tf, ↓g_ft, ↓g_tnt, ↓g_tnf, ↓g_fnt, ↓g_fnf, hd, hd3, hg, botT_lt hlt, hp, hp2, hk0]
        refine ⟨by omega, inK_of (by omega) (by omega), inK_of (by omega) (by omega), ?_⟩
        refine YieldT.of rfl (r := r) (by simp [updH]) e4 (by rw [e1]; rfl) e6 (by rw [e2]; exact hd1) (by rw [e3]; exact hd2) hm ?_
        intro kb
        simp (maxSteps := 4000000) only [e1, e2, e3, go_sem, ↓op_move, ↓op_assign, ↓op_pick, ↓op_alloc, ↓op_box, ↓op_build, ↓op_buildSlice, ↓op_load, ↓op_store, ↓op_nilCheck, ↓op_bin, ↓op_un, ↓op_convert, ↓op_makeFunc, ↓op_makeSlice, ↓op_slice, ↓op_fieldAddr, ↓op_field, ↓op_indexAddr, ↓op_index, ↓op_extract, ↓op_lookup, ↓op_mapUpdate, ↓op_makeMap, ↓op_range, ↓op_next, ↓op_call, ↓op_builtin, ↓g_tt, ↓g_ff, ↓g_tf, ↓g_ft, ↓g_tnt, ↓g_tnf, ↓g_fnt, ↓g_fnf, hk0, hp, hp2]
        refine ⟨fun h2 k0' => ?_, fun h2 => ?_⟩
        · have hat : atE n get h = i := atE_eq hlt (by rw [htop]; exact h2) hno
          rw [hat, Int.toNat_natCast, hg, htop]
          exact VEnt.of_eq rfl
        · refine ⟨inK_of (by omega) (by omega), i + 1, ⟨hlt, fun j hj => ?_⟩, by omega, ⟨?_, rfl⟩, ?_⟩
          · by_cases e : j = i
            · subst e; rw [htop]; exact h2
            · exact hno j (by omega)
          · rw [botT_next hlt, htop]
          · refine HpLe.upd (HpLe.upd (HpLe.upd (HpLe.upd HpLe.none ⟨_, ?_, ObjLe.refl _⟩) ⟨_, ?_, ObjLe.refl _⟩) ⟨_, ?_, ObjLe.refl _⟩) ⟨_, updH_same _ _ _, ?_⟩
            · simp [updH, hk0]
            · simp [updH, hk0]
            · simp [updH, hk0]
            · rw [loop_eta e1 e2 e3 e4 e5]; exact ObjLe.refl _
      · have hd3 : decide ((i : Int) = (n : Int) - 1) = false := by simp; omega
        have htop : topE n get i = botE get i + cell get i 0 := by unfold topE; rw [if_neg (by omega)]
        rw [← hq0]
        clear hq0
        simp (maxSteps := 4000000) only [go_sem, ↓op_move, ↓op_assign, ↓op_pick, ↓op_alloc, ↓op_box, ↓op_build, ↓op_buildSlice, ↓op_load, ↓op_store, ↓op_nilCheck, ↓op_bin, ↓op_un, ↓op_convert, ↓op_makeFunc, ↓op_makeSlice, ↓op_slice, ↓op_fieldAddr, ↓op_field, ↓op_indexAddr, ↓op_index, ↓op_extract, ↓op_lookup, ↓op_mapUpdate, ↓op_makeMap, ↓op_range, ↓op_next, ↓op_call, ↓op_builtin, ↓g_tt, ↓g_ff, ↓g_tf, ↓g_ft, ↓g_tnt, ↓g_tnf, ↓g_fnt, ↓g_fnf, hd, hd3, hg, botT_lt hlt, hp, hp2, hk0]
        refine ⟨by omega, inK_of (by omega) (by omega), inK_of (by omega) (by omega), ?_⟩
        refine YieldT.of rfl (r := r) (by simp [updH]) e4 (by rw [e1]; rfl) e6 (by rw [e2]; exact hd1) (by rw [e3]; exact hd2) hm ?_
        intro kb
        simp (maxSteps := 4000000) only [e1, e2, e3, go_sem, ↓op_move, ↓op_assign, ↓op_pick, ↓op_alloc, ↓op_box, ↓op_build, ↓op_buildSlice, ↓op_load, ↓op_store, ↓op_nilCheck, ↓op_bin, ↓op_un, ↓op_convert, ↓op_makeFunc, ↓op_makeSlice, ↓op_slice, ↓op_fieldAddr, ↓op_field, ↓op_indexAddr, ↓op_index, ↓op_extract, ↓op_lookup, ↓op_mapUpdate, ↓op_makeMap, ↓op_range, ↓op_next, ↓op_call, ↓op_builtin, ↓g_tt, ↓g_ff, ↓g_tf, ↓g_ft, ↓g_tnt, ↓g_tnf, ↓g_fnt, ↓g_fnf, hk0, hp, hp2]
        refine ⟨fun h2 k0' => ?_, fun h2 => ?_⟩
        · have hat : atE n get h = i := atE_eq hlt (by rw [htop]; exact h2) hno
          rw [hat, Int.toNat_natCast, hg, htop]
          exact VEnt.of_eq rfl
        · refine ⟨inK_of (by omega) (by omega), i + 1, ⟨hlt, fun j hj => ?_⟩, by omega, ⟨?_, rfl⟩, ?_⟩
          · by_cases e : j = i
            · subst e; rw [htop]; exact h2
            · exact hno j (by omega)
          · rw [botT_next hlt, htop]
          · refine HpLe.upd (HpLe.upd (HpLe.upd (HpLe.upd HpLe.none ⟨_, ?_, ObjLe.refl _⟩) ⟨_, ?_, ObjLe.refl _⟩) ⟨_, ?_, ObjLe.refl _⟩) ⟨_, updH_same _ _ _, ?_⟩
            · simp [updH, hk0]
            · simp [updH, hk0]
            · simp [updH, hk0]
            · rw [loop_eta e1 e2 e3 e4 e5]; exact ObjLe.refl _
    · exfalso
      have hc := hok.cnt
      have ht : topE n get (n - 1) = 1099511627776 := by unfold topE; rw [if_pos (by omega)]
      exact hno (n - 1) (by omega) (by rw [ht]; omega)
end Go.Fly.Tryz
