/- Walls and tables: the references' checks. -/
import Derived.Test.YtfpoimbidpojnaaGreatDoorSYZEA
import Derived.Test.YtfpoimbidpojnaaGreatDoorSYZBE
import Derived.Test.YtfpoimbidpojnaaGreatDoorAQ
import Derived.Test.YtfpoimbidpojnaaGreatDoorAR
set_option linter.unusedSimpArgs false
set_option linter.unusedVariables false
set_option maxRecDepth 100000
set_option maxHeartbeats 2000000
namespace Go.Fly.Tryz
open Go

theorem rWalls_ok : Holds Proofs.Tryz.prog G0 17 wallsC := by
  refine Holds.of_exC D17 Proofs.Tryz.func17 rfl foll (by kernel_rfl) (tab [(40, wallC)]) (tab_ok ⟨rWall_ok, trivial⟩) G0_ok fun k0 rl args hpu hpre => ?_
  unfold wallsC at hpre ⊢
  split at hpre
  rotate_left
  · exact hpre.elim
  rename_i n sz get
  obtain ⟨rfl, hwl⟩ := hpre
  have hpu := hwl.pu
  have hn := hwl.1
  cases h32 : decide ((32 : Int) < (n : Int))
  · have hE : wallsE n get = firstI (wallsAt get) 0 n := by
      unfold wallsE; rw [if_neg (by simp at h32; omega)]
    simp only [Proofs.Tryz.f17]
    rw [enter_mkT (Nat.le_of_ble_eq_true rfl)]
    simp (maxSteps := 4000000) only [go_sem, ↓op_move, ↓op_assign, ↓op_pick, ↓op_alloc, ↓op_box, ↓op_build, ↓op_buildSlice, ↓op_load, ↓op_store, ↓op_nilCheck, ↓op_bin, ↓op_un, ↓op_convert, ↓op_makeFunc, ↓op_makeSlice, ↓op_slice, ↓op_fieldAddr, ↓op_field, ↓op_indexAddr, ↓op_index, ↓op_extract, ↓op_lookup, ↓op_mapUpdate, ↓op_makeMap, ↓op_range, ↓op_next, ↓op_call, ↓op_builtin, ↓g_tt, ↓g_ff, ↓g_tf, ↓g_ft, ↓g_tnt, ↓g_tnf, ↓g_fnt, ↓g_fnf, ↓mkT_getD, hpu, h32]
    refine RestT.loopF (β := Nat) [(2, 5), (9, 38)] (fun i => [(3, .int .i64 i)]) (fun _ => fun _ => none) (fun i => i ≤ n ∧ firstI (wallsAt get) 0 n = firstI (wallsAt get) i (n - i)) (fun i => n - i) 0 ⟨Nat.zero_le _, rfl⟩ ?_ HpLe.none ?_
    · simp (maxSteps := 4000000) only [go_sem, ↓op_move, ↓op_assign, ↓op_pick, ↓op_alloc, ↓op_box, ↓op_build, ↓op_buildSlice, ↓op_load, ↓op_store, ↓op_nilCheck, ↓op_bin, ↓op_un, ↓op_convert, ↓op_makeFunc, ↓op_makeSlice, ↓op_slice, ↓op_fieldAddr, ↓op_field, ↓op_indexAddr, ↓op_index, ↓op_extract, ↓op_lookup, ↓op_mapUpdate, ↓op_makeMap, ↓op_range, ↓op_next, ↓op_call, ↓op_builtin, ↓g_tt, ↓g_ff, ↓g_tf, ↓g_ft, ↓g_tnt, ↓g_tnf, ↓g_fnt, ↓g_fnf, ↓mkT_getD]
      try exact rfl
    · intro ck i hck hI
      obtain ⟨hi, hf⟩ := hI
      generalize hq0 : exC _ _ _ _ _ = gg
      by_cases hlt : i < n
      · have hd : decide ((i : Int) < (n : Int)) = true := by simp; omega
        obtain ⟨hg, hl⟩ := hwl.2 i hlt
        rw [firstI_step hlt] at hf
        by_cases hw : wAt get i = 0
        · have hw' : wallE (wName get i) (cell get i 1) (cell get i 2) (cell get i 3) (cell get i 4) (cell get i 5) (cell get i 6) = 0 := hw
          rw [← hq0]
          clear hq0
          simp (maxSteps := 4000000) only [go_sem, ↓op_move, ↓op_assign, ↓op_pick, ↓op_alloc, ↓op_box, ↓op_build, ↓op_buildSlice, ↓op_load, ↓op_store, ↓op_nilCheck, ↓op_bin, ↓op_un, ↓op_convert, ↓op_makeFunc, ↓op_makeSlice, ↓op_slice, ↓op_fieldAddr, ↓op_field, ↓op_indexAddr, ↓op_index, ↓op_extract, ↓op_lookup, ↓op_mapUpdate, ↓op_makeMap, ↓op_range, ↓op_next, ↓op_call, ↓op_builtin, ↓g_tt, ↓g_ff, ↓g_tf, ↓g_ft, ↓g_tnt, ↓g_tnf, ↓g_fnt, ↓g_fnf, ↓mkT_getD, hg, hd, hpu, hw']
          refine ⟨⟨by omega, by omega⟩, hl, ?_⟩
          refine RestT.loopF (β := Nat) [(2, 2), (5, 5), (23, 38)] (fun k => [(5, .int .i64 k)]) (fun _ => fun _ => none) (fun k => k ≤ i ∧ ∀ m, m < k → wName get m ≠ wName get i) (fun k => i - k) 0 ⟨Nat.zero_le _, fun m hm => absurd hm (Nat.not_lt_zero _)⟩ ?_ HpLe.none ?_
          · simp (maxSteps := 4000000) only [go_sem, ↓op_move, ↓op_assign, ↓op_pick, ↓op_alloc, ↓op_box, ↓op_build, ↓op_buildSlice, ↓op_load, ↓op_store, ↓op_nilCheck, ↓op_bin, ↓op_un, ↓op_convert, ↓op_makeFunc, ↓op_makeSlice, ↓op_slice, ↓op_fieldAddr, ↓op_field, ↓op_indexAddr, ↓op_index, ↓op_extract, ↓op_lookup, ↓op_mapUpdate, ↓op_makeMap, ↓op_range, ↓op_next, ↓op_call, ↓op_builtin, ↓g_tt, ↓g_ff, ↓g_tf, ↓g_ft, ↓g_tnt, ↓g_tnf, ↓g_fnt, ↓g_fnf, ↓mkT_getD]
            try exact rfl
          · intro ck2 k hck2 hK
            obtain ⟨hk, hne⟩ := hK
            generalize hq0 : exC _ _ _ _ _ = gg
            by_cases hlt2 : k < i
            · have hd2 : decide ((k : Int) < (i : Int)) = true := by simp; omega
              obtain ⟨hg2, hl2⟩ := hwl.2 k (by omega)
              rw [← hq0]
              clear hq0
              simp (maxSteps := 4000000) only [go_sem, ↓op_move, ↓op_assign, ↓op_pick, ↓op_alloc, ↓op_box, ↓op_build, ↓op_buildSlice, ↓op_load, ↓op_store, ↓op_nilCheck, ↓op_bin, ↓op_un, ↓op_convert, ↓op_makeFunc, ↓op_makeSlice, ↓op_slice, ↓op_fieldAddr, ↓op_field, ↓op_indexAddr, ↓op_index, ↓op_extract, ↓op_lookup, ↓op_mapUpdate, ↓op_makeMap, ↓op_range, ↓op_next, ↓op_call, ↓op_builtin, ↓g_tt, ↓g_ff, ↓g_tf, ↓g_ft, ↓g_tnt, ↓g_tnf, ↓g_fnt, ↓g_fnf, ↓mkT_getD, hg, hg2, hd2, hpu]
              refine ⟨⟨by omega, by omega⟩, ⟨by omega, by omega⟩, fun he => VEnt.of_eq ?_, fun hne2 => ⟨inK_of (by omega) (by omega), by omega, k + 1, ⟨hlt2, fun m hm => ?_⟩, by omega, rfl, HpLe.none⟩⟩
              · have e : wallsAt get i = 9 := by
                  unfold wallsAt dupB; rw [if_neg (by simpa using hw), decide_eq_true ⟨k, hlt2, he⟩]; rfl
                rw [hE, hf, e]; rfl
              · by_cases q : m = k
                · subst q; exact hne2
                · exact hne m (by omega)
            · have hd2 : decide ((k : Int) < (i : Int)) = false := by simp; omega
              obtain rfl : k = i := by omega
              rw [← hq0]
              clear hq0
              simp (maxSteps := 4000000) only [go_sem, ↓op_move, ↓op_assign, ↓op_pick, ↓op_alloc, ↓op_box, ↓op_build, ↓op_buildSlice, ↓op_load, ↓op_store, ↓op_nilCheck, ↓op_bin, ↓op_un, ↓op_convert, ↓op_makeFunc, ↓op_makeSlice, ↓op_slice, ↓op_fieldAddr, ↓op_field, ↓op_indexAddr, ↓op_index, ↓op_extract, ↓op_lookup, ↓op_mapUpdate, ↓op_makeMap, ↓op_range, ↓op_next, ↓op_call, ↓op_builtin, ↓g_tt, ↓g_ff, ↓g_tf, ↓g_ft, ↓g_tnt, ↓g_tnf, ↓g_fnt, ↓g_fnf, ↓mkT_getD, hd2, hpu]
              refine ⟨inK_of (by omega) (by omega), by omega, k + 1, ⟨hlt, ?_⟩, by omega, rfl, HpLe.none⟩
              have e : wallsAt get k = 0 := by
                unfold wallsAt dupB; rw [if_neg (by simpa using hw), decide_eq_false (fun ⟨m, hm, he⟩ => hne m hm he)]; rfl
              rw [hf, e]; rfl
        · have hw' : decide (wallE (wName get i) (cell get i 1) (cell get i 2) (cell get i 3) (cell get i 4) (cell get i 5) (cell get i 6) = 0) = false := decide_eq_false hw
          rw [← hq0]
          clear hq0
          simp (maxSteps := 4000000) only [go_sem, ↓op_move, ↓op_assign, ↓op_pick, ↓op_alloc, ↓op_box, ↓op_build, ↓op_buildSlice, ↓op_load, ↓op_store, ↓op_nilCheck, ↓op_bin, ↓op_un, ↓op_convert, ↓op_makeFunc, ↓op_makeSlice, ↓op_slice, ↓op_fieldAddr, ↓op_field, ↓op_indexAddr, ↓op_index, ↓op_extract, ↓op_lookup, ↓op_mapUpdate, ↓op_makeMap, ↓op_range, ↓op_next, ↓op_call, ↓op_builtin, ↓g_tt, ↓g_ff, ↓g_tf, ↓g_ft, ↓g_tnt, ↓g_tnf, ↓g_fnt, ↓g_fnf, ↓mkT_getD, hg, hd, hpu, hw']
          refine ⟨⟨by omega, by omega⟩, hl, VEnt.of_eq ?_⟩
          have e : wallsAt get i = wAt get i := by unfold wallsAt; rw [if_pos hw]
          rw [hE, hf, e, if_pos hw]; rfl
      · have hd : decide ((i : Int) < (n : Int)) = false := by simp; omega
        rw [← hq0]
        clear hq0
        simp (maxSteps := 4000000) only [go_sem, ↓op_move, ↓op_assign, ↓op_pick, ↓op_alloc, ↓op_box, ↓op_build, ↓op_buildSlice, ↓op_load, ↓op_store, ↓op_nilCheck, ↓op_bin, ↓op_un, ↓op_convert, ↓op_makeFunc, ↓op_makeSlice, ↓op_slice, ↓op_fieldAddr, ↓op_field, ↓op_indexAddr, ↓op_index, ↓op_extract, ↓op_lookup, ↓op_mapUpdate, ↓op_makeMap, ↓op_range, ↓op_next, ↓op_call, ↓op_builtin, ↓g_tt, ↓g_ff, ↓g_tf, ↓g_ft, ↓g_tnt, ↓g_tnf, ↓g_fnt, ↓g_fnf, ↓mkT_getD, hd, hpu]
        refine VEnt.of_eq ?_
        rw [hE, hf, firstI_end hlt]
  · simp only [Proofs.Tryz.f17]
    rw [enter_mkT (Nat.le_of_ble_eq_true rfl)]
    simp (maxSteps := 4000000) only [go_sem, ↓op_move, ↓op_assign, ↓op_pick, ↓op_alloc, ↓op_box, ↓op_build, ↓op_buildSlice, ↓op_load, ↓op_store, ↓op_nilCheck, ↓op_bin, ↓op_un, ↓op_convert, ↓op_makeFunc, ↓op_makeSlice, ↓op_slice, ↓op_fieldAddr, ↓op_field, ↓op_indexAddr, ↓op_index, ↓op_extract, ↓op_lookup, ↓op_mapUpdate, ↓op_makeMap, ↓op_range, ↓op_next, ↓op_call, ↓op_builtin, ↓g_tt, ↓g_ff, ↓g_tf, ↓g_ft, ↓g_tnt, ↓g_tnf, ↓g_fnt, ↓g_fnf, ↓mkT_getD, hpu, h32]
    refine VEnt.of_eq ?_
    unfold wallsE; rw [if_pos (by simp at h32; omega)]

theorem rTable_ok : Holds Proofs.Tryz.prog G0 18 tableC := by
  refine Holds.of_exC D18 Proofs.Tryz.func18 rfl foll (by kernel_rfl) (tab [(22, withinC), (41, firstC)]) (tab_ok ⟨qRange_ok, qFirst_ok, trivial⟩) G0_ok fun k0 rl args hpu hpre => ?_
  unfold tableC at hpre ⊢
  split at hpre
  rotate_left
  · exact hpre.elim
  rename_i n sz get
  obtain ⟨rfl, hiv⟩ := hpre
  have hpu := hiv.pu
  have hn := hiv.1
  cases h0 : decide ((n : Int) = 0)
  · cases h16 : decide ((16 : Int) < (n : Int))
    · have hE : tableE n get = firstI (tabAt get) 0 n := by
        unfold tableE; rw [if_neg (by simp at h0; omega), if_neg (by simp at h16; omega)]
      simp only [Proofs.Tryz.f18]
      rw [enter_mkT (Nat.le_of_ble_eq_true rfl)]
      simp (maxSteps := 4000000) only [go_sem, ↓op_move, ↓op_assign, ↓op_pick, ↓op_alloc, ↓op_box, ↓op_build, ↓op_buildSlice, ↓op_load, ↓op_store, ↓op_nilCheck, ↓op_bin, ↓op_un, ↓op_convert, ↓op_makeFunc, ↓op_makeSlice, ↓op_slice, ↓op_fieldAddr, ↓op_field, ↓op_indexAddr, ↓op_index, ↓op_extract, ↓op_lookup, ↓op_mapUpdate, ↓op_makeMap, ↓op_range, ↓op_next, ↓op_call, ↓op_builtin, ↓g_tt, ↓g_ff, ↓g_tf, ↓g_ft, ↓g_tnt, ↓g_tnf, ↓g_fnt, ↓g_fnf, ↓mkT_getD, hpu, h0, h16]
      refine RestT.loopF (β := Nat) [(2, 4), (11, 63)] (fun i => [(3, .int .i64 i)]) (fun _ => fun _ => none) (fun i => i ≤ n ∧ firstI (tabAt get) 0 n = firstI (tabAt get) i (n - i)) (fun i => n - i) 0 ⟨Nat.zero_le _, rfl⟩ ?_ HpLe.none ?_
      · simp (maxSteps := 4000000) only [go_sem, ↓op_move, ↓op_assign, ↓op_pick, ↓op_alloc, ↓op_box, ↓op_build, ↓op_buildSlice, ↓op_load, ↓op_store, ↓op_nilCheck, ↓op_bin, ↓op_un, ↓op_convert, ↓op_makeFunc, ↓op_makeSlice, ↓op_slice, ↓op_fieldAddr, ↓op_field, ↓op_indexAddr, ↓op_index, ↓op_extract, ↓op_lookup, ↓op_mapUpdate, ↓op_makeMap, ↓op_range, ↓op_next, ↓op_call, ↓op_builtin, ↓g_tt, ↓g_ff, ↓g_tf, ↓g_ft, ↓g_tnt, ↓g_tnf, ↓g_fnt, ↓g_fnf, ↓mkT_getD]
        try exact rfl
      · intro ck i hck hI
        obtain ⟨hi, hf⟩ := hI
        generalize hq0 : exC _ _ _ _ _ = gg
        by_cases hlt : i < n
        · have hd : decide ((i : Int) < (n : Int)) = true := by simp; omega
          have hg := hiv.2 i hlt
          rw [firstI_step hlt] at hf
          rw [← hq0]
          clear hq0
          cases i with
          | zero =>
            have hd0 : decide ((0 : Int) < (n : Int)) = true := decide_eq_true (by omega)
            simp (maxSteps := 4000000) only [go_sem, ↓op_move, ↓op_assign, ↓op_pick, ↓op_alloc, ↓op_box, ↓op_build, ↓op_buildSlice, ↓op_load, ↓op_store, ↓op_nilCheck, ↓op_bin, ↓op_un, ↓op_convert, ↓op_makeFunc, ↓op_makeSlice, ↓op_slice, ↓op_fieldAddr, ↓op_field, ↓op_indexAddr, ↓op_index, ↓op_extract, ↓op_lookup, ↓op_mapUpdate, ↓op_makeMap, ↓op_range, ↓op_next, ↓op_call, ↓op_builtin, ↓g_tt, ↓g_ff, ↓g_tf, ↓g_ft, ↓g_tnt, ↓g_tnf, ↓g_fnt, ↓g_fnf, ↓mkT_getD, hg, hd0, hpu]
            have e : tabAt get 0 = firstL [rng (cell get 0 0) 1 1000000, rng (cell get 0 1) 0 1000] := by
              unfold tabAt
              by_cases q : firstL [rng (cell get 0 0) 1 1000000, rng (cell get 0 1) 0 1000] = 0
              · rw [if_neg (by simpa using q), q]; rfl
              · rw [if_pos q]
            refine ⟨by omega, by omega, fun q => VEnt.of_eq ?_, fun q => ?_⟩
            · have q : firstL [rng (cell get 0 0) 1 1000000, rng (cell get 0 1) 0 1000] ≠ 0 := by simpa using q
              rw [hE, hf, e, if_pos q]
            · have q : firstL [rng (cell get 0 0) 1 1000000, rng (cell get 0 1) 0 1000] = 0 := by simpa using q
              rw [e, if_neg (by simpa using q)] at hf
              exact ⟨inK_of (by decide) (by decide), 1, ⟨hlt, hf⟩, by omega, rfl, HpLe.none⟩
          | succ k =>
            have hg2 := hiv.2 k (by omega)
            have e1 : ((k + 1 : Nat) : Int) - 1 = (k : Int) := by omega
            have e2 : decide ((0 : Int) < ((k + 1 : Nat) : Int)) = true := decide_eq_true (by omega)
            simp (maxSteps := 4000000) only [go_sem, ↓op_move, ↓op_assign, ↓op_pick, ↓op_alloc, ↓op_box, ↓op_build, ↓op_buildSlice, ↓op_load, ↓op_store, ↓op_nilCheck, ↓op_bin, ↓op_un, ↓op_convert, ↓op_makeFunc, ↓op_makeSlice, ↓op_slice, ↓op_fieldAddr, ↓op_field, ↓op_indexAddr, ↓op_index, ↓op_extract, ↓op_lookup, ↓op_mapUpdate, ↓op_makeMap, ↓op_range, ↓op_next, ↓op_call, ↓op_builtin, ↓g_tt, ↓g_ff, ↓g_tf, ↓g_ft, ↓g_tnt, ↓g_tnf, ↓g_fnt, ↓g_fnf, ↓mkT_getD, hg, hg2, hd, hpu, e1, e2]
            have hks : k + 1 - 1 = k := rfl
            have io1 : 0 ≤ ((k + 1 : Nat) : Int) ∧ ((k + 1 : Nat) : Int) < (n : Int) := ⟨by omega, by omega⟩
            have io2 : 0 ≤ (k : Int) ∧ (k : Int) < (n : Int) := ⟨by omega, by omega⟩
            have ik : inK .i64 (k : Int) := inK_of (by omega) (by omega)
            have ik2 : inK .i64 (((k + 1 : Nat) : Int) + 1) := inK_of (by omega) (by omega)
            refine ⟨io1, io1, fun q => VEnt.of_eq ?_, fun q => ⟨io1, ik, io2, fun g1 => ⟨io1, ik, io2, fun g2 => VEnt.of_eq ?_, fun g2 => ⟨ik2, k + 1 + 1, ⟨hlt, ?_⟩, by omega, rfl, HpLe.none⟩⟩, fun g1 => ?_⟩⟩
            · have q : firstL [rng (cell get (k + 1) 0) 1 1000000, rng (cell get (k + 1) 1) 0 1000] ≠ 0 := by simpa using q
              have e : tabAt get (k + 1) = firstL [rng (cell get (k + 1) 0) 1 1000000, rng (cell get (k + 1) 1) 0 1000] := by unfold tabAt; rw [if_pos q]
              rw [hE, hf, e, if_pos q]
            · have q : firstL [rng (cell get (k + 1) 0) 1 1000000, rng (cell get (k + 1) 1) 0 1000] = 0 := by simpa using q
              have e : tabAt get (k + 1) = 11 := by
                unfold tabAt; rw [if_neg (by simpa using q), hks]; simp [err, g2]
              rw [hE, hf, e]; rfl
            · have q : firstL [rng (cell get (k + 1) 0) 1 1000000, rng (cell get (k + 1) 1) 0 1000] = 0 := by simpa using q
              have e : tabAt get (k + 1) = 0 := by
                unfold tabAt; rw [if_neg (by simpa using q), hks]; simp [err, g1, g2]
              rw [hf, e]; rfl
            · refine VEnt.of_eq ?_
              have q : firstL [rng (cell get (k + 1) 0) 1 1000000, rng (cell get (k + 1) 1) 0 1000] = 0 := by simpa using q
              have e : tabAt get (k + 1) = 11 := by
                unfold tabAt; rw [if_neg (by simpa using q), hks]; simp [err, g1]
              rw [hE, hf, e]; rfl
        · have hd : decide ((i : Int) < (n : Int)) = false := by simp; omega
          rw [← hq0]
          clear hq0
          simp (maxSteps := 4000000) only [go_sem, ↓op_move, ↓op_assign, ↓op_pick, ↓op_alloc, ↓op_box, ↓op_build, ↓op_buildSlice, ↓op_load, ↓op_store, ↓op_nilCheck, ↓op_bin, ↓op_un, ↓op_convert, ↓op_makeFunc, ↓op_makeSlice, ↓op_slice, ↓op_fieldAddr, ↓op_field, ↓op_indexAddr, ↓op_index, ↓op_extract, ↓op_lookup, ↓op_mapUpdate, ↓op_makeMap, ↓op_range, ↓op_next, ↓op_call, ↓op_builtin, ↓g_tt, ↓g_ff, ↓g_tf, ↓g_ft, ↓g_tnt, ↓g_tnf, ↓g_fnt, ↓g_fnf, ↓mkT_getD, hd, hpu]
          refine VEnt.of_eq ?_
          rw [hE, hf, firstI_end hlt]
    · simp only [Proofs.Tryz.f18]
      rw [enter_mkT (Nat.le_of_ble_eq_true rfl)]
      simp (maxSteps := 4000000) only [go_sem, ↓op_move, ↓op_assign, ↓op_pick, ↓op_alloc, ↓op_box, ↓op_build, ↓op_buildSlice, ↓op_load, ↓op_store, ↓op_nilCheck, ↓op_bin, ↓op_un, ↓op_convert, ↓op_makeFunc, ↓op_makeSlice, ↓op_slice, ↓op_fieldAddr, ↓op_field, ↓op_indexAddr, ↓op_index, ↓op_extract, ↓op_lookup, ↓op_mapUpdate, ↓op_makeMap, ↓op_range, ↓op_next, ↓op_call, ↓op_builtin, ↓g_tt, ↓g_ff, ↓g_tf, ↓g_ft, ↓g_tnt, ↓g_tnf, ↓g_fnt, ↓g_fnf, ↓mkT_getD, hpu, h0, h16]
      refine VEnt.of_eq ?_
      unfold tableE; rw [if_neg (by simp at h0; omega), if_pos (by simp at h16; omega)]
  · simp only [Proofs.Tryz.f18]
    rw [enter_mkT (Nat.le_of_ble_eq_true rfl)]
    simp (maxSteps := 4000000) only [go_sem, ↓op_move, ↓op_assign, ↓op_pick, ↓op_alloc, ↓op_box, ↓op_build, ↓op_buildSlice, ↓op_load, ↓op_store, ↓op_nilCheck, ↓op_bin, ↓op_un, ↓op_convert, ↓op_makeFunc, ↓op_makeSlice, ↓op_slice, ↓op_fieldAddr, ↓op_field, ↓op_indexAddr, ↓op_index, ↓op_extract, ↓op_lookup, ↓op_mapUpdate, ↓op_makeMap, ↓op_range, ↓op_next, ↓op_call, ↓op_builtin, ↓g_tt, ↓g_ff, ↓g_tf, ↓g_ft, ↓g_tnt, ↓g_tnf, ↓g_fnt, ↓g_fnf, ↓mkT_getD, hpu, h0]
    refine VEnt.of_eq ?_
    unfold tableE; rw [if_pos (by simp at h0; omega)]

theorem rShortW_ok : Holds Proofs.Tryz.prog G0 16 shortWallsC := by
  refine Holds.of_exC D16 Proofs.Tryz.func16 rfl foll (by kernel_rfl) (tab []) (tab_ok trivial) G0_ok fun k0 rl args hpu hpre => ?_
  unfold shortWallsC at hpre ⊢
  split at hpre
  rotate_left
  · exact hpre.elim
  rename_i n sz get
  obtain ⟨rfl, hwl⟩ := hpre
  have hpu := hwl.pu
  have hn := hwl.1
  have key : ∀ (cnt : Bool), cnt = (decide (n ≤ 5) || decide (n = 33)) → shortWallsB n get = (cnt && decide (∀ i, i < n → (wName get i).length ≤ 40)) := fun cnt h => by rw [h]; rfl
  have kF : (decide (n ≤ 5) || decide (n = 33)) = true ∨ ((decide ((5 : Int) < (n : Int)) = true) ∧ decide ((n : Int) = 33) = false) := by
    by_cases a : n ≤ 5
    · left; simp [a]
    · by_cases b : n = 33
      · left; simp [b]
      · right; exact ⟨decide_eq_true (by omega), decide_eq_false (by omega)⟩
  rcases kF with kt | ⟨h5, h33⟩
  · have hc : (decide ((5 : Int) < (n : Int)) = false) ∨ (decide ((5 : Int) < (n : Int)) = true ∧ decide ((n : Int) = 33) = true) := by
      simp only [Bool.or_eq_true, decide_eq_true_eq] at kt
      rcases kt with h | h
      · left; exact decide_eq_false (by omega)
      · right; exact ⟨decide_eq_true (by omega), decide_eq_true (by omega)⟩
    have hS := key true kt.symm
    rw [Bool.true_and] at hS
    rcases hc with h5 | ⟨h5, h33⟩
    · simp only [Proofs.Tryz.f16]
      rw [enter_mkT (Nat.le_of_ble_eq_true rfl)]
      simp (maxSteps := 4000000) only [go_sem, ↓op_move, ↓op_assign, ↓op_pick, ↓op_alloc, ↓op_box, ↓op_build, ↓op_buildSlice, ↓op_load, ↓op_store, ↓op_nilCheck, ↓op_bin, ↓op_un, ↓op_convert, ↓op_makeFunc, ↓op_makeSlice, ↓op_slice, ↓op_fieldAddr, ↓op_field, ↓op_indexAddr, ↓op_index, ↓op_extract, ↓op_lookup, ↓op_mapUpdate, ↓op_makeMap, ↓op_range, ↓op_next, ↓op_call, ↓op_builtin, ↓g_tt, ↓g_ff, ↓g_tf, ↓g_ft, ↓g_tnt, ↓g_tnf, ↓g_fnt, ↓g_fnf, ↓mkT_getD, hpu, h5]
      refine RestT.loopF (β := Nat) [(2, 3), (12, 24)] (fun i => [(3, .int .i64 i)]) (fun _ => fun _ => none) (fun i => i ≤ n ∧ ∀ m, m < i → (wName get m).length ≤ 40) (fun i => n - i) 0 ⟨Nat.zero_le _, fun m hm => absurd hm (Nat.not_lt_zero _)⟩ ?_ HpLe.none ?_
      · simp (maxSteps := 4000000) only [go_sem, ↓op_move, ↓op_assign, ↓op_pick, ↓op_alloc, ↓op_box, ↓op_build, ↓op_buildSlice, ↓op_load, ↓op_store, ↓op_nilCheck, ↓op_bin, ↓op_un, ↓op_convert, ↓op_makeFunc, ↓op_makeSlice, ↓op_slice, ↓op_fieldAddr, ↓op_field, ↓op_indexAddr, ↓op_index, ↓op_extract, ↓op_lookup, ↓op_mapUpdate, ↓op_makeMap, ↓op_range, ↓op_next, ↓op_call, ↓op_builtin, ↓g_tt, ↓g_ff, ↓g_tf, ↓g_ft, ↓g_tnt, ↓g_tnf, ↓g_fnt, ↓g_fnf, ↓mkT_getD]
        try exact rfl
      · intro ck i hck hI
        obtain ⟨hi, hle⟩ := hI
        generalize hq0 : exC _ _ _ _ _ = gg
        by_cases hlt : i < n
        · have hd : decide ((i : Int) < (n : Int)) = true := by simp; omega
          obtain ⟨hg, hl⟩ := hwl.2 i hlt
          rw [← hq0]
          clear hq0
          simp (maxSteps := 4000000) only [go_sem, ↓op_move, ↓op_assign, ↓op_pick, ↓op_alloc, ↓op_box, ↓op_build, ↓op_buildSlice, ↓op_load, ↓op_store, ↓op_nilCheck, ↓op_bin, ↓op_un, ↓op_convert, ↓op_makeFunc, ↓op_makeSlice, ↓op_slice, ↓op_fieldAddr, ↓op_field, ↓op_indexAddr, ↓op_index, ↓op_extract, ↓op_lookup, ↓op_mapUpdate, ↓op_makeMap, ↓op_range, ↓op_next, ↓op_call, ↓op_builtin, ↓g_tt, ↓g_ff, ↓g_tf, ↓g_ft, ↓g_tnt, ↓g_tnf, ↓g_fnt, ↓g_fnf, ↓mkT_getD, hg, hd, hpu]
          refine ⟨⟨by omega, by omega⟩, fun q => VEnt.of_eq ?_, fun q => ⟨inK_of (by omega) (by omega), by omega, i + 1, ⟨hlt, fun m hm => ?_⟩, by omega, rfl, HpLe.none⟩⟩
          · rw [hS, decide_eq_false (fun h => by have := h i hlt; omega)]
          · by_cases e : m = i
            · subst e; omega
            · exact hle m (by omega)
        · have hd : decide ((i : Int) < (n : Int)) = false := by simp; omega
          rw [← hq0]
          clear hq0
          simp (maxSteps := 4000000) only [go_sem, ↓op_move, ↓op_assign, ↓op_pick, ↓op_alloc, ↓op_box, ↓op_build, ↓op_buildSlice, ↓op_load, ↓op_store, ↓op_nilCheck, ↓op_bin, ↓op_un, ↓op_convert, ↓op_makeFunc, ↓op_makeSlice, ↓op_slice, ↓op_fieldAddr, ↓op_field, ↓op_indexAddr, ↓op_index, ↓op_extract, ↓op_lookup, ↓op_mapUpdate, ↓op_makeMap, ↓op_range, ↓op_next, ↓op_call, ↓op_builtin, ↓g_tt, ↓g_ff, ↓g_tf, ↓g_ft, ↓g_tnt, ↓g_tnf, ↓g_fnt, ↓g_fnf, ↓mkT_getD, hd, hpu]
          refine VEnt.of_eq ?_
          rw [hS, decide_eq_true (fun m hm => hle m (by omega))]
    · simp only [Proofs.Tryz.f16]
      rw [enter_mkT (Nat.le_of_ble_eq_true rfl)]
      simp (maxSteps := 4000000) only [go_sem, ↓op_move, ↓op_assign, ↓op_pick, ↓op_alloc, ↓op_box, ↓op_build, ↓op_buildSlice, ↓op_load, ↓op_store, ↓op_nilCheck, ↓op_bin, ↓op_un, ↓op_convert, ↓op_makeFunc, ↓op_makeSlice, ↓op_slice, ↓op_fieldAddr, ↓op_field, ↓op_indexAddr, ↓op_index, ↓op_extract, ↓op_lookup, ↓op_mapUpdate, ↓op_makeMap, ↓op_range, ↓op_next, ↓op_call, ↓op_builtin, ↓g_tt, ↓g_ff, ↓g_tf, ↓g_ft, ↓g_tnt, ↓g_tnf, ↓g_fnt, ↓g_fnf, ↓mkT_getD, hpu, h5, h33]
      refine RestT.loopF (β := Nat) [(2, 3), (12, 24)] (fun i => [(3, .int .i64 i)]) (fun _ => fun _ => none) (fun i => i ≤ n ∧ ∀ m, m < i → (wName get m).length ≤ 40) (fun i => n - i) 0 ⟨Nat.zero_le _, fun m hm => absurd hm (Nat.not_lt_zero _)⟩ ?_ HpLe.none ?_
      · simp (maxSteps := 4000000) only [go_sem, ↓op_move, ↓op_assign, ↓op_pick, ↓op_alloc, ↓op_box, ↓op_build, ↓op_buildSlice, ↓op_load, ↓op_store, ↓op_nilCheck, ↓op_bin, ↓op_un, ↓op_convert, ↓op_makeFunc, ↓op_makeSlice, ↓op_slice, ↓op_fieldAddr, ↓op_field, ↓op_indexAddr, ↓op_index, ↓op_extract, ↓op_lookup, ↓op_mapUpdate, ↓op_makeMap, ↓op_range, ↓op_next, ↓op_call, ↓op_builtin, ↓g_tt, ↓g_ff, ↓g_tf, ↓g_ft, ↓g_tnt, ↓g_tnf, ↓g_fnt, ↓g_fnf, ↓mkT_getD]
        try exact rfl
      · intro ck i hck hI
        obtain ⟨hi, hle⟩ := hI
        generalize hq0 : exC _ _ _ _ _ = gg
        by_cases hlt : i < n
        · have hd : decide ((i : Int) < (n : Int)) = true := by simp; omega
          obtain ⟨hg, hl⟩ := hwl.2 i hlt
          rw [← hq0]
          clear hq0
          simp (maxSteps := 4000000) only [go_sem, ↓op_move, ↓op_assign, ↓op_pick, ↓op_alloc, ↓op_box, ↓op_build, ↓op_buildSlice, ↓op_load, ↓op_store, ↓op_nilCheck, ↓op_bin, ↓op_un, ↓op_convert, ↓op_makeFunc, ↓op_makeSlice, ↓op_slice, ↓op_fieldAddr, ↓op_field, ↓op_indexAddr, ↓op_index, ↓op_extract, ↓op_lookup, ↓op_mapUpdate, ↓op_makeMap, ↓op_range, ↓op_next, ↓op_call, ↓op_builtin, ↓g_tt, ↓g_ff, ↓g_tf, ↓g_ft, ↓g_tnt, ↓g_tnf, ↓g_fnt, ↓g_fnf, ↓mkT_getD, hg, hd, hpu]
          refine ⟨⟨by omega, by omega⟩, fun q => VEnt.of_eq ?_, fun q => ⟨inK_of (by omega) (by omega), by omega, i + 1, ⟨hlt, fun m hm => ?_⟩, by omega, rfl, HpLe.none⟩⟩
          · rw [hS, decide_eq_false (fun h => by have := h i hlt; omega)]
          · by_cases e : m = i
            · subst e; omega
            · exact hle m (by omega)
        · have hd : decide ((i : Int) < (n : Int)) = false := by simp; omega
          rw [← hq0]
          clear hq0
          simp (maxSteps := 4000000) only [go_sem, ↓op_move, ↓op_assign, ↓op_pick, ↓op_alloc, ↓op_box, ↓op_build, ↓op_buildSlice, ↓op_load, ↓op_store, ↓op_nilCheck, ↓op_bin, ↓op_un, ↓op_convert, ↓op_makeFunc, ↓op_makeSlice, ↓op_slice, ↓op_fieldAddr, ↓op_field, ↓op_indexAddr, ↓op_index, ↓op_extract, ↓op_lookup, ↓op_mapUpdate, ↓op_makeMap, ↓op_range, ↓op_next, ↓op_call, ↓op_builtin, ↓g_tt, ↓g_ff, ↓g_tf, ↓g_ft, ↓g_tnt, ↓g_tnf, ↓g_fnt, ↓g_fnf, ↓mkT_getD, hd, hpu]
          refine VEnt.of_eq ?_
          rw [hS, decide_eq_true (fun m hm => hle m (by omega))]
  · simp only [Proofs.Tryz.f16]
    rw [enter_mkT (Nat.le_of_ble_eq_true rfl)]
    simp (maxSteps := 4000000) only [go_sem, ↓op_move, ↓op_assign, ↓op_pick, ↓op_alloc, ↓op_box, ↓op_build, ↓op_buildSlice, ↓op_load, ↓op_store, ↓op_nilCheck, ↓op_bin, ↓op_un, ↓op_convert, ↓op_makeFunc, ↓op_makeSlice, ↓op_slice, ↓op_fieldAddr, ↓op_field, ↓op_indexAddr, ↓op_index, ↓op_extract, ↓op_lookup, ↓op_mapUpdate, ↓op_makeMap, ↓op_range, ↓op_next, ↓op_call, ↓op_builtin, ↓g_tt, ↓g_ff, ↓g_tf, ↓g_ft, ↓g_tnt, ↓g_tnf, ↓g_fnt, ↓g_fnf, ↓mkT_getD, hpu, h5, h33]
    refine VEnt.of_eq ?_
    have : (decide (n ≤ 5) || decide (n = 33)) = false := by simp at h5 h33 ⊢; omega
    rw [key false this.symm]; rfl
end Go.Fly.Tryz
