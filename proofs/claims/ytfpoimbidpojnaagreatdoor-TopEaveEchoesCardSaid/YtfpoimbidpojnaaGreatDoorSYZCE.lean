/- Part of a proof: an evaluator of the model's code by abstract values, and plain laws for it. No conditions. -/
import Derived.Test.YtfpoimbidpojnaaGreatDoorSYZBK
import Derived.Test.YtfpoimbidpojnaaGreatDoorAK
import Derived.Test.YtfpoimbidpojnaaGreatDoorSYZBM
import Derived.Test.YtfpoimbidpojnaaGreatDoorAL
import Derived.Test.YtfpoimbidpojnaaGreatDoorAM
set_option linter.unusedSimpArgs false
set_option linter.unusedVariables false
section
/- The air: what passes, arrives, was emitted. -/
set_option maxRecDepth 100000
set_option maxHeartbeats 1000000
namespace Go.Fly.Tryz
open Go

theorem aArr_ok : Holds Proofs.Tryz.prog G0 39 arrivedC := by
  refine Holds.of_exC D39 Proofs.Tryz.func39 rfl foll (by kernel_rfl) (tab [(57, roundsC 88 89), (88, divDnC), (89, divUpC), (iceKey 5, iceC)]) (tab_ok ⟨aRounds_ok, aDn_ok, aUp_ok, ice_holds, trivial⟩) G0_ok fun k0 rl args hpu hpre => ?_
  unfold arrivedC at hpre ⊢
  split at hpre
  rotate_left
  · exact hpre.elim
  rename_i n sz p n' sz' en num den
  obtain ⟨rfl, ⟨hn, hp⟩, rfl, rfl, ⟨hn', he⟩, hn6, rfl, rfl, hb⟩ := hpre
  have hpp := (show IsIv n' p from ⟨hn, hp⟩).pu
  have hpe := (show IsInts n' en from ⟨hn', he⟩).pu
  simp only [Proofs.Tryz.f39]
  simp (maxSteps := 4000000) only [go_sem, ↓op_move, ↓op_assign, ↓op_pick, ↓op_alloc, ↓op_box, ↓op_build, ↓op_buildSlice, ↓op_load, ↓op_store, ↓op_nilCheck, ↓op_bin, ↓op_un, ↓op_convert, ↓op_makeFunc, ↓op_makeSlice, ↓op_slice, ↓op_fieldAddr, ↓op_field, ↓op_indexAddr, ↓op_index, ↓op_extract, ↓op_lookup, ↓op_mapUpdate, ↓op_makeMap, ↓op_range, ↓op_next, ↓op_call, ↓op_builtin, ↓g_tt, ↓g_ff, ↓g_tf, ↓g_ft, ↓g_tnt, ↓g_tnf, ↓g_fnt, ↓g_fnf, hpp, hpe]
  refine RestT.ents (Ents.nilArr (d := 9) (l := (5, 1000)) 2 (fun _ => []) rfl rfl rfl) ?_
  simp only [go_sem, ↓op_move, ↓op_assign, ↓op_pick, ↓op_alloc, ↓op_box, ↓op_build, ↓op_buildSlice, ↓op_load, ↓op_store, ↓op_nilCheck, ↓op_bin, ↓op_un, ↓op_convert, ↓op_makeFunc, ↓op_makeSlice, ↓op_slice, ↓op_fieldAddr, ↓op_field, ↓op_indexAddr, ↓op_index, ↓op_extract, ↓op_lookup, ↓op_mapUpdate, ↓op_makeMap, ↓op_range, ↓op_next, ↓op_call, ↓op_builtin, ↓g_tt, ↓g_ff, ↓g_tf, ↓g_ft, ↓g_tnt, ↓g_tnf, ↓g_fnt, ↓g_fnf]
  refine RestT.loopI (β := Nat) [10, 11, 19, 20, 21, 22, 23, 24, 25, 26, 27, 28, 29, 30, 31, 32, 33, 34, 35, 36, 37, 38, 39, 40, 41, 42, 43, 44, 45, 46, 47, 48, 49, 50, 51, 52, 53, 54, 55, 56, 57, 58, 59] (fun i => [(9, .msl (5, 1000) 0 i), (18, .int .i64 i)]) (fun i => updH (updH (updH (fun _ => none) (3, 7) (.cells [.fn (.func 88) [] []])) (3, 8) (.cells [.fn (.func 89) [] []])) (5, 1000) (.arr i 2 (fun i => [.int .i64 (arrLo (intAt en i) (cell p i 0)), .int .i64 (arrHi (intAt en i) (cell p i 1))])))
    (fun i => i ≤ n') (fun i => n' - i) 0 (Nat.zero_le _) ?_ ?_ ?_
  · simp (maxSteps := 4000000) only [go_sem, ↓op_move, ↓op_assign, ↓op_pick, ↓op_alloc, ↓op_box, ↓op_build, ↓op_buildSlice, ↓op_load, ↓op_store, ↓op_nilCheck, ↓op_bin, ↓op_un, ↓op_convert, ↓op_makeFunc, ↓op_makeSlice, ↓op_slice, ↓op_fieldAddr, ↓op_field, ↓op_indexAddr, ↓op_index, ↓op_extract, ↓op_lookup, ↓op_mapUpdate, ↓op_makeMap, ↓op_range, ↓op_next, ↓op_call, ↓op_builtin, ↓g_tt, ↓g_ff, ↓g_tf, ↓g_ft, ↓g_tnt, ↓g_tnf, ↓g_fnt, ↓g_fnf]
  · refine HpLe.upd (HpLe.upd (HpLe.upd HpLe.none ⟨_, ?_, ObjLe.refl _⟩) ⟨_, ?_, ObjLe.refl _⟩) ⟨_, updH_same _ _ _, objLe_arr fun j hj => by omega⟩ <;> simp [updH]
  · intro ck i hck hi
    have hk0 : ¬ ck = 0 := by omega
    generalize hq0 : exC _ _ _ _ _ = gg
    by_cases hlt : i < n'
    · have hd : decide ((i : Int) < (n' : Int)) = true := by simp; omega
      have hgp := hp i hlt
      have hge := he i hlt
      have hbi := hb i hlt
      have m1 := mul_le_of hbi.2.2.2.2.1 hbi.2.2.2.2.2 hbi.1 hbi.2.1
      have m2 := mul_le_of hbi.2.2.2.2.1 hbi.2.2.2.2.2 hbi.2.2.1 hbi.2.2.2.1
      rw [← hq0]
      clear hq0
      simp (maxSteps := 4000000) only [go_sem, ↓op_move, ↓op_assign, ↓op_pick, ↓op_alloc, ↓op_box, ↓op_build, ↓op_buildSlice, ↓op_load, ↓op_store, ↓op_nilCheck, ↓op_bin, ↓op_un, ↓op_convert, ↓op_makeFunc, ↓op_makeSlice, ↓op_slice, ↓op_fieldAddr, ↓op_field, ↓op_indexAddr, ↓op_index, ↓op_extract, ↓op_lookup, ↓op_mapUpdate, ↓op_makeMap, ↓op_range, ↓op_next, ↓op_call, ↓op_builtin, ↓g_tt, ↓g_ff, ↓g_tf, ↓g_ft, ↓g_tnt, ↓g_tnf, ↓g_fnt, ↓g_fnf, hd, hgp, hge, hpp, hpe, hk0]
      have r1 : arrLo (intAt en i) (cell p i 0) = intAt en i * cell p i 0 * 1 / 1000 := by unfold arrLo; rw [Int.mul_one]
      have r2 : arrHi (intAt en i) (cell p i 1) = (intAt en i * cell p i 1 * 1 + 1000 - 1) / 1000 := by
        unfold arrHi; rw [Int.mul_one]; congr 1; omega
      have hrow : [V.int .i64 (arrLo (intAt en i) (cell p i 0)), V.int .i64 (arrHi (intAt en i) (cell p i 1))] = [V.int .i64 (intAt en i * cell p i 0 * 1 / 1000), V.int .i64 ((intAt en i * cell p i 1 * 1 + 1000 - 1) / 1000)] := by rw [r1, r2]
      refine ⟨by omega, by omega, inK_of (by omega) (by omega), inK_of (by omega) (by omega), inK_of (by decide) (by decide), by omega, by omega, inK_of (by omega) (by omega), inK_of (by omega) (by omega), inK_of (by decide) (by decide), by omega, ⟨by omega, by omega, row_ok rfl ones2⟩, inK_of (by omega) (by omega), by omega, i + 1, hlt, by omega, ⟨rfl, rfl⟩, ?_⟩
      refine HpLe.upd (HpLe.upd (HpLe.upd HpLe.none ⟨_, ?_, ObjLe.refl _⟩) ⟨_, ?_, ObjLe.refl _⟩) ⟨_, ?_, objLe_arr fun j hj => snoc (f := fun i => [V.int .i64 (arrLo (intAt en i) (cell p i 0)), V.int .i64 (arrHi (intAt en i) (cell p i 1))]) rfl hrow hj⟩
      · simp (maxSteps := 4000000) only [go_sem, ↓op_move, ↓op_assign, ↓op_pick, ↓op_alloc, ↓op_box, ↓op_build, ↓op_buildSlice, ↓op_load, ↓op_store, ↓op_nilCheck, ↓op_bin, ↓op_un, ↓op_convert, ↓op_makeFunc, ↓op_makeSlice, ↓op_slice, ↓op_fieldAddr, ↓op_field, ↓op_indexAddr, ↓op_index, ↓op_extract, ↓op_lookup, ↓op_mapUpdate, ↓op_makeMap, ↓op_range, ↓op_next, ↓op_call, ↓op_builtin, ↓g_tt, ↓g_ff, ↓g_tf, ↓g_ft, ↓g_tnt, ↓g_tnf, ↓g_fnt, ↓g_fnf, hk0]
      · simp (maxSteps := 4000000) only [go_sem, ↓op_move, ↓op_assign, ↓op_pick, ↓op_alloc, ↓op_box, ↓op_build, ↓op_buildSlice, ↓op_load, ↓op_store, ↓op_nilCheck, ↓op_bin, ↓op_un, ↓op_convert, ↓op_makeFunc, ↓op_makeSlice, ↓op_slice, ↓op_fieldAddr, ↓op_field, ↓op_indexAddr, ↓op_index, ↓op_extract, ↓op_lookup, ↓op_mapUpdate, ↓op_makeMap, ↓op_range, ↓op_next, ↓op_call, ↓op_builtin, ↓g_tt, ↓g_ff, ↓g_tf, ↓g_ft, ↓g_tnt, ↓g_tnf, ↓g_fnt, ↓g_fnf, hk0]
      · simp (maxSteps := 4000000) only [go_sem, ↓op_move, ↓op_assign, ↓op_pick, ↓op_alloc, ↓op_box, ↓op_build, ↓op_buildSlice, ↓op_load, ↓op_store, ↓op_nilCheck, ↓op_bin, ↓op_un, ↓op_convert, ↓op_makeFunc, ↓op_makeSlice, ↓op_slice, ↓op_fieldAddr, ↓op_field, ↓op_indexAddr, ↓op_index, ↓op_extract, ↓op_lookup, ↓op_mapUpdate, ↓op_makeMap, ↓op_range, ↓op_next, ↓op_call, ↓op_builtin, ↓g_tt, ↓g_ff, ↓g_tf, ↓g_ft, ↓g_tnt, ↓g_tnf, ↓g_fnt, ↓g_fnf, hk0]
    · have hd : decide ((i : Int) < (n' : Int)) = false := by simp; omega
      obtain rfl : i = n' := by omega
      rw [← hq0]
      clear hq0
      simp (maxSteps := 4000000) only [go_sem, ↓op_move, ↓op_assign, ↓op_pick, ↓op_alloc, ↓op_box, ↓op_build, ↓op_buildSlice, ↓op_load, ↓op_store, ↓op_nilCheck, ↓op_bin, ↓op_un, ↓op_convert, ↓op_makeFunc, ↓op_makeSlice, ↓op_slice, ↓op_fieldAddr, ↓op_field, ↓op_indexAddr, ↓op_index, ↓op_extract, ↓op_lookup, ↓op_mapUpdate, ↓op_makeMap, ↓op_range, ↓op_next, ↓op_call, ↓op_builtin, ↓g_tt, ↓g_ff, ↓g_tf, ↓g_ft, ↓g_tnt, ↓g_tnf, ↓g_fnt, ↓g_fnf, hd, hpp, hpe]
      rw [if_pos (by omega)]
      exact VEnt.sl fun j hj => by rw [Nat.zero_add]; first | done | exact frzRow_pu fun v hv => (ones2 v hv).1 | exact frzRow_pu fun v hv => (ones1 v hv).1 | exact frzRow_sl hp3 hj | exact frzRow_sl hp hj

theorem aPassed_ok : Holds Proofs.Tryz.prog G0 34 passedC := by
  refine Holds.of_exC D34 Proofs.Tryz.func34 rfl foll (by kernel_rfl) (tab [(57, roundsC 88 89), (88, divDnC), (89, divUpC)]) (tab_ok ⟨aRounds_ok, aDn_ok, aUp_ok, trivial⟩) G0_ok fun k0 rl args hpu hpre => ?_
  unfold passedC at hpre ⊢
  split at hpre
  rotate_left
  · exact hpre.elim
  rename_i n sz get n' sz' st
  obtain ⟨rfl, hair, hok, rfl, rfl, hst, hb⟩ := hpre
  have hp := hair.pu
  have hps := hst.pu
  have hn8 := hok.cnt
  have hbands := hok.bands
  obtain ⟨hg0, hiv0⟩ := hair.2 0 hok.cnt.1
  have hp0 := hiv0.pu
  simp only [Proofs.Tryz.f34]
  simp (maxSteps := 4000000) only [go_sem, ↓op_move, ↓op_assign, ↓op_pick, ↓op_alloc, ↓op_box, ↓op_build, ↓op_buildSlice, ↓op_load, ↓op_store, ↓op_nilCheck, ↓op_bin, ↓op_un, ↓op_convert, ↓op_makeFunc, ↓op_makeSlice, ↓op_slice, ↓op_fieldAddr, ↓op_field, ↓op_indexAddr, ↓op_index, ↓op_extract, ↓op_lookup, ↓op_mapUpdate, ↓op_makeMap, ↓op_range, ↓op_next, ↓op_call, ↓op_builtin, ↓g_tt, ↓g_ff, ↓g_tf, ↓g_ft, ↓g_tnt, ↓g_tnf, ↓g_fnt, ↓g_fnf, hp, hps, hg0, hp0]
  refine ⟨by have := hok.cnt; omega, ?_⟩
  refine RestT.ents (Ents.nilArr (d := 7) (l := (5, 1000)) 2 (fun _ => []) rfl rfl rfl) ?_
  simp only [go_sem, ↓op_move, ↓op_assign, ↓op_pick, ↓op_alloc, ↓op_box, ↓op_build, ↓op_buildSlice, ↓op_load, ↓op_store, ↓op_nilCheck, ↓op_bin, ↓op_un, ↓op_convert, ↓op_makeFunc, ↓op_makeSlice, ↓op_slice, ↓op_fieldAddr, ↓op_field, ↓op_indexAddr, ↓op_index, ↓op_extract, ↓op_lookup, ↓op_mapUpdate, ↓op_makeMap, ↓op_range, ↓op_next, ↓op_call, ↓op_builtin, ↓g_tt, ↓g_ff, ↓g_tf, ↓g_ft, ↓g_tnt, ↓g_tnf, ↓g_fnt, ↓g_fnf]
  obtain ⟨hl, hhl⟩ : ∃ hl : Nat → Int, hl = fun i => cell st i 1 := ⟨_, rfl⟩
  obtain ⟨hh, hhh⟩ : ∃ hh : Nat → Int, hh = fun i => cell st i 0 := ⟨_, rfl⟩
  rw [← hhl, ← hhh]
  refine RestT.loopI (β := Nat) [8, 9, 10, 11, 22, 23, 24, 25, 26, 27, 28, 29, 30, 31, 32, 33, 34, 35, 36, 37, 38, 39, 40, 41, 42, 43, 44, 45, 46, 47, 48, 49, 50, 51, 52, 53, 54, 55, 56, 57, 58, 59, 60, 61, 62, 63, 64, 65, 66, 67, 68, 69, 70, 71, 72, 73, 74, 75, 76, 77, 78, 79] (fun i => [(7, .msl (5, 1000) 0 i), (21, .int .i64 i)]) (fun i => updH (updH (updH (fun _ => none) (3, 5) (.cells [.fn (.func 88) [] []])) (3, 6) (.cells [.fn (.func 89) [] []])) (5, 1000) (.arr i 2 (fun b => [.int .i64 (passLo get hl b n'), .int .i64 (passHi get hh b n')])))
    (fun i => i ≤ inN get 0 4) (fun i => inN get 0 4 - i) 0 (Nat.zero_le _) ?_ ?_ ?_
  · simp (maxSteps := 4000000) only [go_sem, ↓op_move, ↓op_assign, ↓op_pick, ↓op_alloc, ↓op_box, ↓op_build, ↓op_buildSlice, ↓op_load, ↓op_store, ↓op_nilCheck, ↓op_bin, ↓op_un, ↓op_convert, ↓op_makeFunc, ↓op_makeSlice, ↓op_slice, ↓op_fieldAddr, ↓op_field, ↓op_indexAddr, ↓op_index, ↓op_extract, ↓op_lookup, ↓op_mapUpdate, ↓op_makeMap, ↓op_range, ↓op_next, ↓op_call, ↓op_builtin, ↓g_tt, ↓g_ff, ↓g_tf, ↓g_ft, ↓g_tnt, ↓g_tnf, ↓g_fnt, ↓g_fnf]
  · refine HpLe.upd (HpLe.upd (HpLe.upd HpLe.none ⟨_, ?_, ObjLe.refl _⟩) ⟨_, ?_, ObjLe.refl _⟩) ⟨_, updH_same _ _ _, objLe_arr fun j hj => by omega⟩ <;> simp [updH]
  · intro ck b hck hbb
    have hk0 : ¬ ck = 0 := by omega
    generalize hq0 : exC _ _ _ _ _ = gg
    by_cases hlt : b < inN get 0 4
    · have hd : decide ((b : Int) < (inN get 0 4 : Int)) = true := by simp; omega
      rw [← hq0]
      clear hq0
      simp (maxSteps := 4000000) only [go_sem, ↓op_move, ↓op_assign, ↓op_pick, ↓op_alloc, ↓op_box, ↓op_build, ↓op_buildSlice, ↓op_load, ↓op_store, ↓op_nilCheck, ↓op_bin, ↓op_un, ↓op_convert, ↓op_makeFunc, ↓op_makeSlice, ↓op_slice, ↓op_fieldAddr, ↓op_field, ↓op_indexAddr, ↓op_index, ↓op_extract, ↓op_lookup, ↓op_mapUpdate, ↓op_makeMap, ↓op_range, ↓op_next, ↓op_call, ↓op_builtin, ↓g_tt, ↓g_ff, ↓g_tf, ↓g_ft, ↓g_tnt, ↓g_tnf, ↓g_fnt, ↓g_fnf, hd, hp, hps, hk0]
      have hcell : ∀ i, i < n' → 0 ≤ cell (inG get i 4) b 0 ∧ cell (inG get i 4) b 0 ≤ 1000 ∧ 0 ≤ cell (inG get i 4) b 1 ∧ cell (inG get i 4) b 1 ≤ 1000 := fun i hi => by
        have := hok.pass i hi b hlt; omega
      refine RestT.loopI (β := Nat) [10, 11, 28, 29, 30, 31, 32, 33, 34, 35, 36, 37, 38, 39, 40, 41, 42, 43, 44, 45, 46, 47, 48, 49, 50, 51, 52, 53, 54, 55, 56, 57, 58, 59, 60, 61, 62, 63, 64, 65, 66, 67, 68, 69, 70, 71, 72, 73, 74] (fun i => [(27, .int .i64 i)]) (fun i => updH (updH (updH (updH (fun _ => none) (3, 5) (.cells [.fn (.func 88) [] []])) (3, 6) (.cells [.fn (.func 89) [] []])) (5, 1000) (.arr b 2 (fun b => [.int .i64 (passLo get hl b n'), .int .i64 (passHi get hh b n')]))) (ck + 1 + 1 + 1, 9) (.cells [.int .i64 (passLo get hl b i), .int .i64 (passHi get hh b i)]))
        (fun i => i ≤ n') (fun i => n' - i) 0 (Nat.zero_le _) ?_ (HpLe.again rfl) ?_
      · simp (maxSteps := 4000000) only [go_sem, ↓op_move, ↓op_assign, ↓op_pick, ↓op_alloc, ↓op_box, ↓op_build, ↓op_buildSlice, ↓op_load, ↓op_store, ↓op_nilCheck, ↓op_bin, ↓op_un, ↓op_convert, ↓op_makeFunc, ↓op_makeSlice, ↓op_slice, ↓op_fieldAddr, ↓op_field, ↓op_indexAddr, ↓op_index, ↓op_extract, ↓op_lookup, ↓op_mapUpdate, ↓op_makeMap, ↓op_range, ↓op_next, ↓op_call, ↓op_builtin, ↓g_tt, ↓g_ff, ↓g_tf, ↓g_ft, ↓g_tnt, ↓g_tnf, ↓g_fnt, ↓g_fnf]
      · intro ck2 i hck2 hi
        have hk2 : ¬ ck2 = 0 := by omega
        generalize hq0 : exC _ _ _ _ _ = gg
        by_cases hlt2 : i < n'
        · have hd2 : decide ((i : Int) < (n' : Int)) = true := by simp; omega
          obtain ⟨hg, hiv⟩ := hair.2 i hlt2
          have hp2 := hiv.pu
          have hgs := hst.2 i hlt2
          have hci := hcell i hlt2
          have hbi := hb i hlt2
          have hpb := pass_bd (get := get) (hl := hl) (hh := hh) (b := b) (n := i) fun j hj => hcell j (by omega)
          have hgb := hiv.2 b (by rw [hok.same i hlt2]; exact hlt)
          have hlen := hok.same i hlt2
          obtain ⟨kl, hkl⟩ : ∃ kl : Nat, cell st i 1 = kl := ⟨(cell st i 1).toNat, by omega⟩
          obtain ⟨kh, hkh⟩ : ∃ kh : Nat, cell st i 0 = kh := ⟨(cell st i 0).toNat, by omega⟩
          have hle : hl i = kl := by rw [hhl]; exact hkl
          have hhe : hh i = kh := by rw [hhh]; exact hkh
          rw [hkl, hkh] at hgs
          rw [← hq0]
          clear hq0
          simp (maxSteps := 4000000) only [go_sem, ↓op_move, ↓op_assign, ↓op_pick, ↓op_alloc, ↓op_box, ↓op_build, ↓op_buildSlice, ↓op_load, ↓op_store, ↓op_nilCheck, ↓op_bin, ↓op_un, ↓op_convert, ↓op_makeFunc, ↓op_makeSlice, ↓op_slice, ↓op_fieldAddr, ↓op_field, ↓op_indexAddr, ↓op_index, ↓op_extract, ↓op_lookup, ↓op_mapUpdate, ↓op_makeMap, ↓op_range, ↓op_next, ↓op_call, ↓op_builtin, ↓g_tt, ↓g_ff, ↓g_tf, ↓g_ft, ↓g_tnt, ↓g_tnf, ↓g_fnt, ↓g_fnf, hd2, hg, hgs, hp, hps, hp2, hk0, hk2]
          refine ⟨by omega, by omega, ?_⟩
          refine RestT.loopI (β := Nat) [38, 39, 40, 41, 42, 43, 44, 45, 46, 47, 48, 49, 50, 51, 52] (fun k => [(37, .int .i64 k)]) (fun k => updH _ (ck + 1 + 1 + 1, 9) (.cells [.int .i64 (downE (cell (inG get i 4) b 0) k (passLo get hl b i)), .int .i64 (passHi get hh b i)])) (fun k => k ≤ kl) (fun k => kl - k) 0 (Nat.zero_le _) ?_ (HpLe.upd1 (o := .cells [.int .i64 (passLo get hl b i), .int .i64 (passHi get hh b i)]) ?_ rfl) ?_
          · simp (maxSteps := 4000000) only [go_sem, ↓op_move, ↓op_assign, ↓op_pick, ↓op_alloc, ↓op_box, ↓op_build, ↓op_buildSlice, ↓op_load, ↓op_store, ↓op_nilCheck, ↓op_bin, ↓op_un, ↓op_convert, ↓op_makeFunc, ↓op_makeSlice, ↓op_slice, ↓op_fieldAddr, ↓op_field, ↓op_indexAddr, ↓op_index, ↓op_extract, ↓op_lookup, ↓op_mapUpdate, ↓op_makeMap, ↓op_range, ↓op_next, ↓op_call, ↓op_builtin, ↓g_tt, ↓g_ff, ↓g_tf, ↓g_ft, ↓g_tnt, ↓g_tnf, ↓g_fnt, ↓g_fnf]
          · simp (maxSteps := 4000000) only [go_sem, ↓op_move, ↓op_assign, ↓op_pick, ↓op_alloc, ↓op_box, ↓op_build, ↓op_buildSlice, ↓op_load, ↓op_store, ↓op_nilCheck, ↓op_bin, ↓op_un, ↓op_convert, ↓op_makeFunc, ↓op_makeSlice, ↓op_slice, ↓op_fieldAddr, ↓op_field, ↓op_indexAddr, ↓op_index, ↓op_extract, ↓op_lookup, ↓op_mapUpdate, ↓op_makeMap, ↓op_range, ↓op_next, ↓op_call, ↓op_builtin, ↓g_tt, ↓g_ff, ↓g_tf, ↓g_ft, ↓g_tnt, ↓g_tnf, ↓g_fnt, ↓g_fnf, hk0, hk2]
          · intro ck3 k hck3 hk
            have hk3 : ¬ ck3 = 0 := by omega
            generalize hq0 : exC _ _ _ _ _ = gg
            by_cases hlt3 : k < kl
            · have hd3 : decide ((k : Int) < (kl : Int)) = true := by simp; omega
              have hdb := down_bd hci.1 hci.2.1 (k := k) hpb.1.1
              have m1 := mul_le_of hdb.1 (show downE (cell (inG get i 4) b 0) k (passLo get hl b i) ≤ 1000 by omega) hci.1 hci.2.1
              rw [← hq0]
              clear hq0
              simp (maxSteps := 4000000) only [go_sem, ↓op_move, ↓op_assign, ↓op_pick, ↓op_alloc, ↓op_box, ↓op_build, ↓op_buildSlice, ↓op_load, ↓op_store, ↓op_nilCheck, ↓op_bin, ↓op_un, ↓op_convert, ↓op_makeFunc, ↓op_makeSlice, ↓op_slice, ↓op_fieldAddr, ↓op_field, ↓op_indexAddr, ↓op_index, ↓op_extract, ↓op_lookup, ↓op_mapUpdate, ↓op_makeMap, ↓op_range, ↓op_next, ↓op_call, ↓op_builtin, ↓g_tt, ↓g_ff, ↓g_tf, ↓g_ft, ↓g_tnt, ↓g_tnf, ↓g_fnt, ↓g_fnf, hd3, hg, hgb, hlen, hp, hps, hp2, hk0, hk2, hk3]
              refine ⟨by omega, inK_of (by omega) (by omega), ⟨by omega, by omega⟩, inK_of (by omega) (by omega), by omega, k + 1, hlt3, by omega, rfl, HpLe.again ?_⟩
              rw [down_succ]; rfl
            · have hd3 : decide ((k : Int) < (kl : Int)) = false := by simp; omega
              obtain rfl : k = kl := by omega
              rw [← hq0]
              clear hq0
              simp (maxSteps := 4000000) only [go_sem, ↓op_move, ↓op_assign, ↓op_pick, ↓op_alloc, ↓op_box, ↓op_build, ↓op_buildSlice, ↓op_load, ↓op_store, ↓op_nilCheck, ↓op_bin, ↓op_un, ↓op_convert, ↓op_makeFunc, ↓op_makeSlice, ↓op_slice, ↓op_fieldAddr, ↓op_field, ↓op_indexAddr, ↓op_index, ↓op_extract, ↓op_lookup, ↓op_mapUpdate, ↓op_makeMap, ↓op_range, ↓op_next, ↓op_call, ↓op_builtin, ↓g_tt, ↓g_ff, ↓g_tf, ↓g_ft, ↓g_tnt, ↓g_tnf, ↓g_fnt, ↓g_fnf, hd3, hg, hgs, hlen, hp, hps, hp2, hk0, hk2, hk3]
              refine ⟨by omega, ?_⟩
              refine RestT.loopI (β := Nat) [59, 60, 61, 62, 63, 64, 65, 66, 67, 68, 69, 70, 71, 72, 73] (fun j => [(58, .int .i64 j)]) (fun j => updH _ (ck + 1 + 1 + 1, 9) (.cells [.int .i64 (downE (cell (inG get i 4) b 0) k (passLo get hl b i)), .int .i64 (upE (cell (inG get i 4) b 1) j (passHi get hh b i))])) (fun j => j ≤ kh) (fun j => kh - j) 0 (Nat.zero_le _) ?_ (HpLe.upd1 (o := .cells [.int .i64 (downE (cell (inG get i 4) b 0) k (passLo get hl b i)), .int .i64 (passHi get hh b i)]) ?_ rfl) ?_
              · simp (maxSteps := 4000000) only [go_sem, ↓op_move, ↓op_assign, ↓op_pick, ↓op_alloc, ↓op_box, ↓op_build, ↓op_buildSlice, ↓op_load, ↓op_store, ↓op_nilCheck, ↓op_bin, ↓op_un, ↓op_convert, ↓op_makeFunc, ↓op_makeSlice, ↓op_slice, ↓op_fieldAddr, ↓op_field, ↓op_indexAddr, ↓op_index, ↓op_extract, ↓op_lookup, ↓op_mapUpdate, ↓op_makeMap, ↓op_range, ↓op_next, ↓op_call, ↓op_builtin, ↓g_tt, ↓g_ff, ↓g_tf, ↓g_ft, ↓g_tnt, ↓g_tnf, ↓g_fnt, ↓g_fnf]
              · simp (maxSteps := 4000000) only [go_sem, ↓op_move, ↓op_assign, ↓op_pick, ↓op_alloc, ↓op_box, ↓op_build, ↓op_buildSlice, ↓op_load, ↓op_store, ↓op_nilCheck, ↓op_bin, ↓op_un, ↓op_convert, ↓op_makeFunc, ↓op_makeSlice, ↓op_slice, ↓op_fieldAddr, ↓op_field, ↓op_indexAddr, ↓op_index, ↓op_extract, ↓op_lookup, ↓op_mapUpdate, ↓op_makeMap, ↓op_range, ↓op_next, ↓op_call, ↓op_builtin, ↓g_tt, ↓g_ff, ↓g_tf, ↓g_ft, ↓g_tnt, ↓g_tnf, ↓g_fnt, ↓g_fnf, hk0, hk2]
              · intro ck4 j hck4 hj
                have hk4 : ¬ ck4 = 0 := by omega
                generalize hq1 : exC _ _ _ _ _ = gg1
                by_cases hlt4 : j < kh
                · have hd4 : decide ((j : Int) < (kh : Int)) = true := by simp; omega
                  have hub := up_bd hci.2.2.1 hci.2.2.2 (k := j) hpb.2.1
                  have m2 := mul_le_of hub.1 (show upE (cell (inG get i 4) b 1) j (passHi get hh b i) ≤ 1000 by omega) hci.2.2.1 hci.2.2.2
                  rw [← hq1]
                  clear hq1
                  simp (maxSteps := 4000000) only [go_sem, ↓op_move, ↓op_assign, ↓op_pick, ↓op_alloc, ↓op_box, ↓op_build, ↓op_buildSlice, ↓op_load, ↓op_store, ↓op_nilCheck, ↓op_bin, ↓op_un, ↓op_convert, ↓op_makeFunc, ↓op_makeSlice, ↓op_slice, ↓op_fieldAddr, ↓op_field, ↓op_indexAddr, ↓op_index, ↓op_extract, ↓op_lookup, ↓op_mapUpdate, ↓op_makeMap, ↓op_range, ↓op_next, ↓op_call, ↓op_builtin, ↓g_tt, ↓g_ff, ↓g_tf, ↓g_ft, ↓g_tnt, ↓g_tnf, ↓g_fnt, ↓g_fnf, hd4, hg, hgb, hlen, hp, hps, hp2, hk0, hk2, hk3, hk4]
                  refine ⟨by omega, inK_of (by omega) (by omega), ⟨by omega, by omega⟩, inK_of (by omega) (by omega), by omega, j + 1, hlt4, by omega, rfl, HpLe.again ?_⟩
                  rw [up_succ]
                  simp only [ObjLe, show ∀ x : Int, x + 1000 - 1 = x + 999 from fun x => by omega]
                · have hd4 : decide ((j : Int) < (kh : Int)) = false := by simp; omega
                  obtain rfl : j = kh := by omega
                  rw [← hq1]
                  clear hq1
                  simp (maxSteps := 4000000) only [go_sem, ↓op_move, ↓op_assign, ↓op_pick, ↓op_alloc, ↓op_box, ↓op_build, ↓op_buildSlice, ↓op_load, ↓op_store, ↓op_nilCheck, ↓op_bin, ↓op_un, ↓op_convert, ↓op_makeFunc, ↓op_makeSlice, ↓op_slice, ↓op_fieldAddr, ↓op_field, ↓op_indexAddr, ↓op_index, ↓op_extract, ↓op_lookup, ↓op_mapUpdate, ↓op_makeMap, ↓op_range, ↓op_next, ↓op_call, ↓op_builtin, ↓g_tt, ↓g_ff, ↓g_tf, ↓g_ft, ↓g_tnt, ↓g_tnf, ↓g_fnt, ↓g_fnf, hd4, hg, hgb, hlen, hp, hps, hp2, hk0, hk2, hk3, hk4]
                  refine ⟨inK_of (by omega) (by omega), by omega, i + 1, hlt2, by omega, rfl, ?_⟩
                  refine HpLe.upd (HpLe.upd (HpLe.upd (HpLe.upd HpLe.none ⟨_, ?_, ObjLe.refl _⟩) ⟨_, ?_, ObjLe.refl _⟩) ⟨_, ?_, ObjLe.refl _⟩) ⟨.cells [.int .i64 (downE (cell (inG get i 4) b 0) k (passLo get hl b i)), .int .i64 (upE (cell (inG get i 4) b 1) j (passHi get hh b i))], ?_, ?_⟩
                  · simp (maxSteps := 4000000) only [go_sem, ↓op_move, ↓op_assign, ↓op_pick, ↓op_alloc, ↓op_box, ↓op_build, ↓op_buildSlice, ↓op_load, ↓op_store, ↓op_nilCheck, ↓op_bin, ↓op_un, ↓op_convert, ↓op_makeFunc, ↓op_makeSlice, ↓op_slice, ↓op_fieldAddr, ↓op_field, ↓op_indexAddr, ↓op_index, ↓op_extract, ↓op_lookup, ↓op_mapUpdate, ↓op_makeMap, ↓op_range, ↓op_next, ↓op_call, ↓op_builtin, ↓g_tt, ↓g_ff, ↓g_tf, ↓g_ft, ↓g_tnt, ↓g_tnf, ↓g_fnt, ↓g_fnf, hk0, hk2]
                  · simp (maxSteps := 4000000) only [go_sem, ↓op_move, ↓op_assign, ↓op_pick, ↓op_alloc, ↓op_box, ↓op_build, ↓op_buildSlice, ↓op_load, ↓op_store, ↓op_nilCheck, ↓op_bin, ↓op_un, ↓op_convert, ↓op_makeFunc, ↓op_makeSlice, ↓op_slice, ↓op_fieldAddr, ↓op_field, ↓op_indexAddr, ↓op_index, ↓op_extract, ↓op_lookup, ↓op_mapUpdate, ↓op_makeMap, ↓op_range, ↓op_next, ↓op_call, ↓op_builtin, ↓g_tt, ↓g_ff, ↓g_tf, ↓g_ft, ↓g_tnt, ↓g_tnf, ↓g_fnt, ↓g_fnf, hk0, hk2]
                  · simp (maxSteps := 4000000) only [go_sem, ↓op_move, ↓op_assign, ↓op_pick, ↓op_alloc, ↓op_box, ↓op_build, ↓op_buildSlice, ↓op_load, ↓op_store, ↓op_nilCheck, ↓op_bin, ↓op_un, ↓op_convert, ↓op_makeFunc, ↓op_makeSlice, ↓op_slice, ↓op_fieldAddr, ↓op_field, ↓op_indexAddr, ↓op_index, ↓op_extract, ↓op_lookup, ↓op_mapUpdate, ↓op_makeMap, ↓op_range, ↓op_next, ↓op_call, ↓op_builtin, ↓g_tt, ↓g_ff, ↓g_tf, ↓g_ft, ↓g_tnt, ↓g_tnf, ↓g_fnt, ↓g_fnf, hk0, hk2]
                  · simp (maxSteps := 4000000) only [go_sem, ↓op_move, ↓op_assign, ↓op_pick, ↓op_alloc, ↓op_box, ↓op_build, ↓op_buildSlice, ↓op_load, ↓op_store, ↓op_nilCheck, ↓op_bin, ↓op_un, ↓op_convert, ↓op_makeFunc, ↓op_makeSlice, ↓op_slice, ↓op_fieldAddr, ↓op_field, ↓op_indexAddr, ↓op_index, ↓op_extract, ↓op_lookup, ↓op_mapUpdate, ↓op_makeMap, ↓op_range, ↓op_next, ↓op_call, ↓op_builtin, ↓g_tt, ↓g_ff, ↓g_tf, ↓g_ft, ↓g_tnt, ↓g_tnf, ↓g_fnt, ↓g_fnf, hk0, hk2]
                  · simp [ObjLe, passLo, passHi, hle, hhe]
        · have hd2 : decide ((i : Int) < (n' : Int)) = false := by simp; omega
          obtain rfl : i = n' := by omega
          rw [← hq0]
          clear hq0
          simp (maxSteps := 4000000) only [go_sem, ↓op_move, ↓op_assign, ↓op_pick, ↓op_alloc, ↓op_box, ↓op_build, ↓op_buildSlice, ↓op_load, ↓op_store, ↓op_nilCheck, ↓op_bin, ↓op_un, ↓op_convert, ↓op_makeFunc, ↓op_makeSlice, ↓op_slice, ↓op_fieldAddr, ↓op_field, ↓op_indexAddr, ↓op_index, ↓op_extract, ↓op_lookup, ↓op_mapUpdate, ↓op_makeMap, ↓op_range, ↓op_next, ↓op_call, ↓op_builtin, ↓g_tt, ↓g_ff, ↓g_tf, ↓g_ft, ↓g_tnt, ↓g_tnf, ↓g_fnt, ↓g_fnf, hd2, hp, hps, hk0, hk2]
          have hbb8 := hok.bands
          refine ⟨⟨by omega, by omega, row_ok rfl ones2⟩, inK_of (by omega) (by omega), by omega, b + 1, hlt, by omega, ⟨rfl, rfl⟩, ?_⟩
          refine HpLe.upd (HpLe.upd (HpLe.upd HpLe.none ⟨_, ?_, ObjLe.refl _⟩) ⟨_, ?_, ObjLe.refl _⟩) ⟨_, ?_, objLe_arr fun j hj => snoc (f := fun b => [V.int .i64 (passLo get hl b i), V.int .i64 (passHi get hh b i)]) rfl rfl hj⟩
          · simp (maxSteps := 4000000) only [go_sem, ↓op_move, ↓op_assign, ↓op_pick, ↓op_alloc, ↓op_box, ↓op_build, ↓op_buildSlice, ↓op_load, ↓op_store, ↓op_nilCheck, ↓op_bin, ↓op_un, ↓op_convert, ↓op_makeFunc, ↓op_makeSlice, ↓op_slice, ↓op_fieldAddr, ↓op_field, ↓op_indexAddr, ↓op_index, ↓op_extract, ↓op_lookup, ↓op_mapUpdate, ↓op_makeMap, ↓op_range, ↓op_next, ↓op_call, ↓op_builtin, ↓g_tt, ↓g_ff, ↓g_tf, ↓g_ft, ↓g_tnt, ↓g_tnf, ↓g_fnt, ↓g_fnf, hk0, hk2]
          · simp (maxSteps := 4000000) only [go_sem, ↓op_move, ↓op_assign, ↓op_pick, ↓op_alloc, ↓op_box, ↓op_build, ↓op_buildSlice, ↓op_load, ↓op_store, ↓op_nilCheck, ↓op_bin, ↓op_un, ↓op_convert, ↓op_makeFunc, ↓op_makeSlice, ↓op_slice, ↓op_fieldAddr, ↓op_field, ↓op_indexAddr, ↓op_index, ↓op_extract, ↓op_lookup, ↓op_mapUpdate, ↓op_makeMap, ↓op_range, ↓op_next, ↓op_call, ↓op_builtin, ↓g_tt, ↓g_ff, ↓g_tf, ↓g_ft, ↓g_tnt, ↓g_tnf, ↓g_fnt, ↓g_fnf, hk0, hk2]
          · simp (maxSteps := 4000000) only [go_sem, ↓op_move, ↓op_assign, ↓op_pick, ↓op_alloc, ↓op_box, ↓op_build, ↓op_buildSlice, ↓op_load, ↓op_store, ↓op_nilCheck, ↓op_bin, ↓op_un, ↓op_convert, ↓op_makeFunc, ↓op_makeSlice, ↓op_slice, ↓op_fieldAddr, ↓op_field, ↓op_indexAddr, ↓op_index, ↓op_extract, ↓op_lookup, ↓op_mapUpdate, ↓op_makeMap, ↓op_range, ↓op_next, ↓op_call, ↓op_builtin, ↓g_tt, ↓g_ff, ↓g_tf, ↓g_ft, ↓g_tnt, ↓g_tnf, ↓g_fnt, ↓g_fnf, hk0, hk2]
    · have hd : decide ((b : Int) < (inN get 0 4 : Int)) = false := by simp; omega
      obtain rfl : b = inN get 0 4 := by omega
      rw [← hq0]
      clear hq0
      simp (maxSteps := 4000000) only [go_sem, ↓op_move, ↓op_assign, ↓op_pick, ↓op_alloc, ↓op_box, ↓op_build, ↓op_buildSlice, ↓op_load, ↓op_store, ↓op_nilCheck, ↓op_bin, ↓op_un, ↓op_convert, ↓op_makeFunc, ↓op_makeSlice, ↓op_slice, ↓op_fieldAddr, ↓op_field, ↓op_indexAddr, ↓op_index, ↓op_extract, ↓op_lookup, ↓op_mapUpdate, ↓op_makeMap, ↓op_range, ↓op_next, ↓op_call, ↓op_builtin, ↓g_tt, ↓g_ff, ↓g_tf, ↓g_ft, ↓g_tnt, ↓g_tnf, ↓g_fnt, ↓g_fnf, hd, hp, hps, hk0]
      rw [if_pos (by omega)]
      exact VEnt.sl fun j hj => by rw [Nat.zero_add]; first | done | exact frzRow_pu fun v hv => (ones2 v hv).1 | exact frzRow_pu fun v hv => (ones1 v hv).1 | exact frzRow_sl hp3 hj | exact frzRow_sl hp hj


end Go.Fly.Tryz
end
section
/- The air: what arrives. -/
set_option maxRecDepth 100000
set_option maxHeartbeats 1000000
namespace Go.Fly.Tryz
open Go

theorem aArrived_ok : Holds Proofs.Tryz.prog G0 15 arrived2C := by
  refine Holds.of_exC D15 Proofs.Tryz.func15 rfl foll (by kernel_rfl) (tab [(25, straightC), (33, checkC), (34, passedC), (35, stepsC), (38, energiesC), (39, arrivedC), (iceKey 4, iceC)]) (tab_ok ⟨aStraight_ok, aCheck_ok, aPassed_ok, aSteps_ok, aEnergies_ok, aArr_ok, ice_holds, trivial⟩) G0_ok fun k0 rl args hpu hpre => ?_
  unfold arrived2C at hpre ⊢
  split at hpre
  rotate_left
  · exact hpre.elim
  rename_i n sz get a b c d e f n' sz' en
  obtain ⟨rfl, hair, hae, hpath, rfl, hen, rfl, hb⟩ := hpre
  have hok := airE_ok hae
  have hp := hair.pu
  have hpe := hen.pu
  obtain ⟨hg0, hiv0⟩ := hair.2 0 hok.cnt.1
  have hp0 := hiv0.pu
  have hck : checkE n get a b c d e f = 0 := by
    unfold checkE; rw [firstL_zero]; simp [hae, pathE_zero.2 hpath]
  have hce : energiesE (inN get 0 4) en (inN get 0 4 : Int) 10000000000000 = 0 := by
    unfold energiesE; rw [firstL_zero]; simp [err, rngs_zero]; exact hb
  have hsq := sqE_bd hpath
  have hst := fun i => step_bd (n := n) (get := get) (flat := c) hsq (show min c f ≤ max c f by omega) i
  have hpb := fun i hi => p_bd (k := i) hok hpath hi
  obtain ⟨⟨q1, q2, q3⟩, ⟨q4, q5, q6⟩, q7⟩ := id hpath
  have hb8 := hok.bands
  have hcn := hok.cnt
  simp only [Proofs.Tryz.f15]
  simp (maxSteps := 4000000) only [go_sem, ↓op_move, ↓op_assign, ↓op_pick, ↓op_alloc, ↓op_box, ↓op_build, ↓op_buildSlice, ↓op_load, ↓op_store, ↓op_nilCheck, ↓op_bin, ↓op_un, ↓op_convert, ↓op_makeFunc, ↓op_makeSlice, ↓op_slice, ↓op_fieldAddr, ↓op_field, ↓op_indexAddr, ↓op_index, ↓op_extract, ↓op_lookup, ↓op_mapUpdate, ↓op_makeMap, ↓op_range, ↓op_next, ↓op_call, ↓op_builtin, ↓g_tt, ↓g_ff, ↓g_tf, ↓g_ft, ↓g_tnt, ↓g_tnf, ↓g_fnt, ↓g_fnf, hp, hpe, hg0, hp0, hck, hce]
  refine ⟨hair, by omega, ⟨hen, by omega⟩, hpath, ⟨hair, hok, hsq, by omega, by omega, by omega, by omega, by omega⟩, ⟨hair, hok, isIv_fn _ _ hair.1, fun i hi => ?_⟩, ⟨isIv_fn _ _ (by omega), hen, by omega, fun i hi => ?_⟩, VEnt.of_eq rfl⟩
  · have := hst i
    omega
  · have h1 := hpb i hi
    have h2 := hb i hi
    unfold pLo pHi at h1
    omega

end Go.Fly.Tryz
end
section
/- The air: what passes. -/
set_option maxRecDepth 100000
set_option maxHeartbeats 1000000
namespace Go.Fly.Tryz
open Go

theorem aPassed2_ok : Holds Proofs.Tryz.prog G0 11 passed2C := by
  refine Holds.of_exC D11 Proofs.Tryz.func11 rfl foll (by kernel_rfl) (tab [(25, straightC), (33, checkC), (34, passedC), (35, stepsC), (iceKey 3, iceC)]) (tab_ok ⟨aStraight_ok, aCheck_ok, aPassed_ok, aSteps_ok, ice_holds, trivial⟩) G0_ok fun k0 rl args hpu hpre => ?_
  unfold passed2C at hpre ⊢
  split at hpre
  rotate_left
  · exact hpre.elim
  rename_i n sz get a b c d e f
  obtain ⟨rfl, hair, hae, hpath⟩ := hpre
  have hok := airE_ok hae
  have hp := hair.pu
  obtain ⟨hg0, hiv0⟩ := hair.2 0 hok.cnt.1
  have hp0 := hiv0.pu
  have hck : checkE n get a b c d e f = 0 := by
    unfold checkE; rw [firstL_zero]; simp [hae, pathE_zero.2 hpath]
  have hsq := sqE_bd hpath
  have hst := fun i => step_bd (n := n) (get := get) (flat := c) hsq (show min c f ≤ max c f by omega) i
  have hpb := fun i hi => p_bd (k := i) hok hpath hi
  obtain ⟨⟨q1, q2, q3⟩, ⟨q4, q5, q6⟩, q7⟩ := id hpath
  have hb8 := hok.bands
  have hcn := hok.cnt
  simp only [Proofs.Tryz.f11]
  simp (maxSteps := 4000000) only [go_sem, ↓op_move, ↓op_assign, ↓op_pick, ↓op_alloc, ↓op_box, ↓op_build, ↓op_buildSlice, ↓op_load, ↓op_store, ↓op_nilCheck, ↓op_bin, ↓op_un, ↓op_convert, ↓op_makeFunc, ↓op_makeSlice, ↓op_slice, ↓op_fieldAddr, ↓op_field, ↓op_indexAddr, ↓op_index, ↓op_extract, ↓op_lookup, ↓op_mapUpdate, ↓op_makeMap, ↓op_range, ↓op_next, ↓op_call, ↓op_builtin, ↓g_tt, ↓g_ff, ↓g_tf, ↓g_ft, ↓g_tnt, ↓g_tnf, ↓g_fnt, ↓g_fnf, hp, hg0, hp0, hck]
  refine ⟨hair, hpath, ⟨hair, hok, hsq, by omega, by omega, by omega, by omega, by omega⟩, ⟨hair, hok, isIv_fn _ _ hair.1, fun i hi => ?_⟩, VEnt.of_eq rfl⟩
  have := hst i
  omega
end Go.Fly.Tryz
end
