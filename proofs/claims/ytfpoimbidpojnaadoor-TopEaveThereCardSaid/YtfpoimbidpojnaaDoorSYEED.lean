/- Walls, tables: their checks; what walls screen. -/
import Derived.Test.YtfpoimbidpojnaaDoorSYEEC
import Derived.Test.YtfpoimbidpojnaaDoorSYEBE
set_option linter.unusedSimpArgs false
set_option linter.unusedVariables false
set_option maxRecDepth 100000
set_option maxHeartbeats 2000000
namespace Go.Fly.Tryd
open Go

theorem tCheck_ok : Holds Proofs.Tryd.prog G0 79 wallOkC := by
  refine Holds.of_exC D79 Proofs.Tryd.func79 rfl foll (by kernel_rfl) (tab [(33, withinC), (56, whenC), (57, firstC), (90, nameC), (91, int1C (fun n => rng n 1 1000)), (92, int1C (fun n => rng n 0 1000)), (119, placeC (fun a _ _ _ => a)), (120, placeC (fun _ a _ _ => a)), (121, placeC (fun _ _ a _ => a)), (122, placeC (fun _ _ _ a => a)), (iceKey 1, iceC)]) (tab_ok ⟨tWithin_ok, tWhen_ok, tFirst_ok, dName_ok, tHigh_ok, tEcho_ok, tPl1_ok, tPl2_ok, tPl3_ok, tPl4_ok, ice_holds, trivial⟩) G0_ok fun k0 rl args hpu hpre => ?_
  unfold wallOkC at hpre ⊢
  split at hpre
  rotate_left
  · exact hpre.elim
  rename_i nm ax ay bx ky h ec
  obtain ⟨hn, hw⟩ := hpre
  have hw' := hw
  obtain ⟨w0, w1, w2, w3, w4, w5, w6, w7⟩ := hw
  have r1 := rng_zero.2 w1
  have r2 := rng_zero.2 w2
  have r3 := rng_zero.2 w3
  have r4 := rng_zero.2 w4
  have r5 := rng_zero.2 w6
  have r6 := rng_zero.2 w7
  have w5' : (decide (ax = bx) && decide (ay = ky)) = false := by
    cases hd : (decide (ax = bx) && decide (ay = ky))
    · rfl
    · simp at hd; exact absurd hd w5
  simp only [Proofs.Tryd.f79]
  rw [enter_mkT (Nat.le_of_ble_eq_true rfl)]
  simp (maxSteps := 4000000) only [go_sem, ↓op_move, ↓op_assign, ↓op_pick, ↓op_alloc, ↓op_box, ↓op_build, ↓op_buildSlice, ↓op_load, ↓op_store, ↓op_nilCheck, ↓op_bin, ↓op_un, ↓op_convert, ↓op_makeFunc, ↓op_makeSlice, ↓op_slice, ↓op_fieldAddr, ↓op_field, ↓op_indexAddr, ↓op_index, ↓op_extract, ↓op_lookup, ↓op_mapUpdate, ↓op_makeMap, ↓op_range, ↓op_next, ↓op_call, ↓op_builtin, ↓g_tt, ↓g_ff, ↓g_tf, ↓g_ft, ↓g_tnt, ↓g_tnf, ↓g_fnt, ↓g_fnf, ↓mkT_getD, w0]
  refine ⟨hn, ?_⟩
  refine RestT.loopF (β := Nat) [(2, 2), (4, 5), (11, 26)] (fun i => [(11, .int .i64 i)]) (fun _ => fun _ => none) (fun i => i ≤ 4) (fun i => 4 - i) 0 (by decide) ?_ HpLe.none ?_
  · simp (maxSteps := 4000000) only [go_sem, ↓op_move, ↓op_assign, ↓op_pick, ↓op_alloc, ↓op_box, ↓op_build, ↓op_buildSlice, ↓op_load, ↓op_store, ↓op_nilCheck, ↓op_bin, ↓op_un, ↓op_convert, ↓op_makeFunc, ↓op_makeSlice, ↓op_slice, ↓op_fieldAddr, ↓op_field, ↓op_indexAddr, ↓op_index, ↓op_extract, ↓op_lookup, ↓op_mapUpdate, ↓op_makeMap, ↓op_range, ↓op_next, ↓op_call, ↓op_builtin, ↓g_tt, ↓g_ff, ↓g_tf, ↓g_ft, ↓g_tnt, ↓g_tnf, ↓g_fnt, ↓g_fnf, ↓mkT_getD]
    try exact rfl
  · intro ck i hck hi
    generalize hq0 : exC _ _ _ _ _ = gg
    have hi5 : i = 0 ∨ i = 1 ∨ i = 2 ∨ i = 3 ∨ i = 4 := by omega
    rcases hi5 with rfl | rfl | rfl | rfl | rfl
    all_goals
      rw [← hq0]
      clear hq0
      simp (maxSteps := 4000000) only [go_sem, ↓op_move, ↓op_assign, ↓op_pick, ↓op_alloc, ↓op_box, ↓op_build, ↓op_buildSlice, ↓op_load, ↓op_store, ↓op_nilCheck, ↓op_bin, ↓op_un, ↓op_convert, ↓op_makeFunc, ↓op_makeSlice, ↓op_slice, ↓op_fieldAddr, ↓op_field, ↓op_indexAddr, ↓op_index, ↓op_extract, ↓op_lookup, ↓op_mapUpdate, ↓op_makeMap, ↓op_range, ↓op_next, ↓op_call, ↓op_builtin, ↓g_tt, ↓g_ff, ↓g_tf, ↓g_ft, ↓g_tnt, ↓g_tnf, ↓g_fnt, ↓g_fnf, ↓mkT_getD, r1, r2, r3, r4, r5, r6, w5']
    · exact ⟨inK_of (by decide) (by decide), 1, by decide, by decide, rfl, HpLe.none⟩
    · exact ⟨inK_of (by decide) (by decide), 2, by decide, by decide, rfl, HpLe.none⟩
    · exact ⟨inK_of (by decide) (by decide), 3, by decide, by decide, rfl, HpLe.none⟩
    · exact ⟨inK_of (by decide) (by decide), 4, by decide, by decide, rfl, HpLe.none⟩
    · exact VEnt.of_eq rfl

theorem tWalls_ok : Holds Proofs.Tryd.prog G0 58 wallsOkC := by
  refine Holds.of_exC D58 Proofs.Tryd.func58 rfl foll (by kernel_rfl) (tab [(56, whenC), (57, firstC), (79, wallOkC)]) (tab_ok ⟨tWhen_ok, tFirst_ok, tCheck_ok, trivial⟩) G0_ok fun k0 rl args hpu hpre => ?_
  unfold wallsOkC at hpre ⊢
  split at hpre
  rotate_left
  · exact hpre.elim
  rename_i n sz get
  obtain ⟨rfl, hwl, hok⟩ := hpre
  have hpu := hwl.pu
  have hc := hok.cnt
  have hd0 : decide ((32 : Int) < (n : Int)) = false := decide_eq_false (by omega)
  simp only [Proofs.Tryd.f58]
  rw [enter_mkT (Nat.le_of_ble_eq_true rfl)]
  simp (maxSteps := 4000000) only [go_sem, ↓op_move, ↓op_assign, ↓op_pick, ↓op_alloc, ↓op_box, ↓op_build, ↓op_buildSlice, ↓op_load, ↓op_store, ↓op_nilCheck, ↓op_bin, ↓op_un, ↓op_convert, ↓op_makeFunc, ↓op_makeSlice, ↓op_slice, ↓op_fieldAddr, ↓op_field, ↓op_indexAddr, ↓op_index, ↓op_extract, ↓op_lookup, ↓op_mapUpdate, ↓op_makeMap, ↓op_range, ↓op_next, ↓op_call, ↓op_builtin, ↓g_tt, ↓g_ff, ↓g_tf, ↓g_ft, ↓g_tnt, ↓g_tnf, ↓g_fnt, ↓g_fnf, ↓mkT_getD, hpu, hd0]
  refine ⟨fun L o h => (by cases h), fun L => ?_⟩
  refine RestT.loopF (β := Nat × Array MapEntry × Nat) [(2, 2), (5, 6), (13, 32)] (fun b => [(13, .int .i64 b.1)]) (fun b => updH (fun _ => none) (0, L) (.raw (.map b.2.1 b.2.2))) (fun b => b.1 ≤ n ∧ ∀ e ∈ b.2.1.toList, ∃ j, j < b.1 ∧ e.key = .string ⟨(wName get j).toArray⟩) (fun b => n - b.1) (0, #[], 0) ⟨Nat.zero_le _, fun e he => (by simp at he)⟩ ?_ (HpLe.refl _) ?_
  · simp (maxSteps := 4000000) only [go_sem, ↓op_move, ↓op_assign, ↓op_pick, ↓op_alloc, ↓op_box, ↓op_build, ↓op_buildSlice, ↓op_load, ↓op_store, ↓op_nilCheck, ↓op_bin, ↓op_un, ↓op_convert, ↓op_makeFunc, ↓op_makeSlice, ↓op_slice, ↓op_fieldAddr, ↓op_field, ↓op_indexAddr, ↓op_index, ↓op_extract, ↓op_lookup, ↓op_mapUpdate, ↓op_makeMap, ↓op_range, ↓op_next, ↓op_call, ↓op_builtin, ↓g_tt, ↓g_ff, ↓g_tf, ↓g_ft, ↓g_tnt, ↓g_tnf, ↓g_fnt, ↓g_fnf, ↓mkT_getD]
    try exact rfl
  · intro ck b hck hI
    generalize hq0 : exC _ _ _ _ _ = gg
    obtain ⟨i, es, c⟩ := b
    obtain ⟨hi, hk⟩ := hI
    have hi : i ≤ n := hi
    have hk : ∀ e ∈ es.toList, ∃ j, j < i ∧ e.key = .string ⟨(wName get j).toArray⟩ := hk
    by_cases hlt : i < n
    · have hd : decide ((i : Int) < (n : Int)) = true := by simp; omega
      obtain ⟨hg, hl⟩ := hwl.2 i hlt
      have hw := hok.wall i hlt
      have hf := findNow_none (s := wName get i) (l := es.toList) (fun e he => by
        obtain ⟨j, hj, hkey⟩ := hk e he
        exact ⟨_, hkey, hok.two i j hlt hj⟩) 0
      rw [← hq0]
      clear hq0
      have e9 : firstL [0, err false 9] = 0 := rfl
      simp (maxSteps := 4000000) only [go_sem, ↓op_move, ↓op_assign, ↓op_pick, ↓op_alloc, ↓op_box, ↓op_build, ↓op_buildSlice, ↓op_load, ↓op_store, ↓op_nilCheck, ↓op_bin, ↓op_un, ↓op_convert, ↓op_makeFunc, ↓op_makeSlice, ↓op_slice, ↓op_fieldAddr, ↓op_field, ↓op_indexAddr, ↓op_index, ↓op_extract, ↓op_lookup, ↓op_mapUpdate, ↓op_makeMap, ↓op_range, ↓op_next, ↓op_call, ↓op_builtin, ↓g_tt, ↓g_ff, ↓g_tf, ↓g_ft, ↓g_tnt, ↓g_tnf, ↓g_fnt, ↓g_fnf, ↓mkT_getD, hg, hd, hpu, hf, e9]
      refine ⟨⟨by omega, by omega⟩, ⟨hl, hw⟩, inK_of (by omega) (by omega), (i + 1, es.push ⟨.string ⟨(wName get i).toArray⟩, .bool true, c⟩, c + 1), ⟨hlt, fun e he => ?_⟩, by show n - (i + 1) < n - i; omega, rfl, ?_⟩
      · simp only [Array.toList_push, List.mem_append, List.mem_singleton] at he
        rcases he with he | rfl
        · obtain ⟨j, hj, hkey⟩ := hk e he
          exact ⟨j, by show j < i + 1; omega, hkey⟩
        · exact ⟨i, Nat.lt_succ_self i, rfl⟩
      · exact HpLe.upd HpLe.none ⟨_, updH_same _ _ _, ObjLe.refl _⟩
    · have hd : decide ((i : Int) < (n : Int)) = false := by simp; omega
      rw [← hq0]
      clear hq0
      simp (maxSteps := 4000000) only [go_sem, ↓op_move, ↓op_assign, ↓op_pick, ↓op_alloc, ↓op_box, ↓op_build, ↓op_buildSlice, ↓op_load, ↓op_store, ↓op_nilCheck, ↓op_bin, ↓op_un, ↓op_convert, ↓op_makeFunc, ↓op_makeSlice, ↓op_slice, ↓op_fieldAddr, ↓op_field, ↓op_indexAddr, ↓op_index, ↓op_extract, ↓op_lookup, ↓op_mapUpdate, ↓op_makeMap, ↓op_range, ↓op_next, ↓op_call, ↓op_builtin, ↓g_tt, ↓g_ff, ↓g_tf, ↓g_ft, ↓g_tnt, ↓g_tnf, ↓g_fnt, ↓g_fnf, ↓mkT_getD, hd, hpu]
      exact VEnt.of_eq rfl

theorem tTable_ok : Holds Proofs.Tryd.prog G0 59 tableOkC := by
  refine Holds.of_exC D59 Proofs.Tryd.func59 rfl foll (by kernel_rfl) (tab [(33, withinC), (56, whenC), (57, firstC)]) (tab_ok ⟨tWithin_ok, tWhen_ok, tFirst_ok, trivial⟩) G0_ok fun k0 rl args hpu hpre => ?_
  unfold tableOkC at hpre ⊢
  split at hpre
  rotate_left
  · exact hpre.elim
  rename_i n sz get
  obtain ⟨rfl, hiv, hok⟩ := hpre
  have hpu := hiv.pu
  have hc := hok.cnt
  have e1 : decide ((n : Int) = 0) = false := decide_eq_false (by omega)
  have e2 : decide ((16 : Int) < (n : Int)) = false := decide_eq_false (by omega)
  have e3 : firstL [err false 12, err false 5] = 0 := rfl
  obtain ⟨pf, hpf⟩ : ∃ pf : Nat → Int, ∀ i, pf i = if i = 0 then 0 else cell get (i - 1) 0 := ⟨_, fun _ => rfl⟩
  obtain ⟨pc, hpc⟩ : ∃ pc : Nat → Int, ∀ i, pc i = if i = 0 then 1000 else cell get (i - 1) 1 := ⟨_, fun _ => rfl⟩
  have hpf0 : pf 0 = 0 := hpf 0
  have hpc0 : pc 0 = 1000 := hpc 0
  have hpfs : ∀ i, pf (i + 1) = cell get i 0 := fun i => by rw [hpf, if_neg (by omega)]; rfl
  have hpcs : ∀ i, pc (i + 1) = cell get i 1 := fun i => by rw [hpc, if_neg (by omega)]; rfl
  simp only [Proofs.Tryd.f59]
  rw [enter_mkT (Nat.le_of_ble_eq_true rfl)]
  simp (maxSteps := 4000000) only [go_sem, ↓op_move, ↓op_assign, ↓op_pick, ↓op_alloc, ↓op_box, ↓op_build, ↓op_buildSlice, ↓op_load, ↓op_store, ↓op_nilCheck, ↓op_bin, ↓op_un, ↓op_convert, ↓op_makeFunc, ↓op_makeSlice, ↓op_slice, ↓op_fieldAddr, ↓op_field, ↓op_indexAddr, ↓op_index, ↓op_extract, ↓op_lookup, ↓op_mapUpdate, ↓op_makeMap, ↓op_range, ↓op_next, ↓op_call, ↓op_builtin, ↓g_tt, ↓g_ff, ↓g_tf, ↓g_ft, ↓g_tnt, ↓g_tnf, ↓g_fnt, ↓g_fnf, ↓mkT_getD, hpu, e1, e2, e3]
  refine RestT.loopF (β := Nat) [(2, 2), (6, 7), (24, 53)] (fun i => [(24, .int .i64 i)]) (fun i => updH (fun _ => none) (5, 4) (.cells [.int .i64 (pf i), .int .i64 (pc i)])) (fun i => i ≤ n) (fun i => n - i) 0 (Nat.zero_le _) ?_
    (HpLe.upd HpLe.none ⟨_, updH_same _ _ _, by rw [hpf0, hpc0]; exact ObjLe.refl _⟩) ?_
  · simp (maxSteps := 4000000) only [go_sem, ↓op_move, ↓op_assign, ↓op_pick, ↓op_alloc, ↓op_box, ↓op_build, ↓op_buildSlice, ↓op_load, ↓op_store, ↓op_nilCheck, ↓op_bin, ↓op_un, ↓op_convert, ↓op_makeFunc, ↓op_makeSlice, ↓op_slice, ↓op_fieldAddr, ↓op_field, ↓op_indexAddr, ↓op_index, ↓op_extract, ↓op_lookup, ↓op_mapUpdate, ↓op_makeMap, ↓op_range, ↓op_next, ↓op_call, ↓op_builtin, ↓g_tt, ↓g_ff, ↓g_tf, ↓g_ft, ↓g_tnt, ↓g_tnf, ↓g_fnt, ↓g_fnf, ↓mkT_getD]
    try exact rfl
  · intro ck i hck hi
    generalize hq0 : exC _ _ _ _ _ = gg
    by_cases hlt : i < n
    · have hd : decide ((i : Int) < (n : Int)) = true := by simp; omega
      have hg := hiv.2 i hlt
      have hf := hok.from_ i hlt
      have hf2 := hok.fac i hlt
      have r1 := rng_zero.2 hf
      have r2 := rng_zero.2 hf2
      have q1 : decide (cell get i 0 ≤ pf i) = false := decide_eq_false (by
        cases i with
        | zero => rw [hpf0]; omega
        | succ k => rw [hpfs]; have := hok.up k hlt; omega)
      have q2 : decide (pc i < cell get i 1) = false := decide_eq_false (by
        cases i with
        | zero => rw [hpc0]; omega
        | succ k => rw [hpcs]; have := hok.down k hlt; omega)
      rw [← hq0]
      clear hq0
      have e9 : firstL [0, 0, err false 11] = 0 := rfl
      simp (maxSteps := 4000000) only [go_sem, ↓op_move, ↓op_assign, ↓op_pick, ↓op_alloc, ↓op_box, ↓op_build, ↓op_buildSlice, ↓op_load, ↓op_store, ↓op_nilCheck, ↓op_bin, ↓op_un, ↓op_convert, ↓op_makeFunc, ↓op_makeSlice, ↓op_slice, ↓op_fieldAddr, ↓op_field, ↓op_indexAddr, ↓op_index, ↓op_extract, ↓op_lookup, ↓op_mapUpdate, ↓op_makeMap, ↓op_range, ↓op_next, ↓op_call, ↓op_builtin, ↓g_tt, ↓g_ff, ↓g_tf, ↓g_ft, ↓g_tnt, ↓g_tnf, ↓g_fnt, ↓g_fnf, ↓mkT_getD, hg, hd, hpu, r1, r2, q1, q2, e9]
      exact ⟨⟨by omega, by omega⟩, inK_of (by omega) (by omega), i + 1, hlt, by omega, rfl, HpLe.upd HpLe.none ⟨_, updH_same _ _ _, by rw [hpfs, hpcs]; exact ObjLe.refl _⟩⟩
    · have hd : decide ((i : Int) < (n : Int)) = false := by simp; omega
      rw [← hq0]
      clear hq0
      simp (maxSteps := 4000000) only [go_sem, ↓op_move, ↓op_assign, ↓op_pick, ↓op_alloc, ↓op_box, ↓op_build, ↓op_buildSlice, ↓op_load, ↓op_store, ↓op_nilCheck, ↓op_bin, ↓op_un, ↓op_convert, ↓op_makeFunc, ↓op_makeSlice, ↓op_slice, ↓op_fieldAddr, ↓op_field, ↓op_indexAddr, ↓op_index, ↓op_extract, ↓op_lookup, ↓op_mapUpdate, ↓op_makeMap, ↓op_range, ↓op_next, ↓op_call, ↓op_builtin, ↓g_tt, ↓g_ff, ↓g_tf, ↓g_ft, ↓g_tnt, ↓g_tnf, ↓g_fnt, ↓g_fnf, ↓mkT_getD, hd, hpu]
      exact VEnt.of_eq rfl

theorem tHeard_ok : Holds Proofs.Tryd.prog G0 35 heardOkC := by
  refine Holds.of_exC D35 Proofs.Tryd.func35 rfl foll (by kernel_rfl) (tab [(33, withinC), (57, firstC), (58, wallsOkC), (59, tableOkC), (60, spotC), (iceKey 6, iceC)]) (tab_ok ⟨tWithin_ok, tFirst_ok, tWalls_ok, tTable_ok, tSpot_ok, ice_holds, trivial⟩) G0_ok fun k0 rl args hpu hpre => ?_
  unfold heardOkC at hpre ⊢
  split at hpre
  rotate_left
  · exact hpre.elim
  rename_i n sz get nt st gt sx sy sz' rx ry rz e
  obtain ⟨rfl, hwl, hok, rfl, hiv, hok2, hs, hr, he, he2⟩ := hpre
  have hpu := hwl.pu
  have hpu2 := hiv.pu
  have z1 := spotE_zero.2 hs
  have z2 := spotE_zero.2 hr
  have z3 : rng e 0 10000000000000 = 0 := rng_zero.2 ⟨he, he2⟩
  simp only [Proofs.Tryd.f35]
  rw [enter_mkT (Nat.le_of_ble_eq_true rfl)]
  simp (maxSteps := 4000000) only [go_sem, ↓op_move, ↓op_assign, ↓op_pick, ↓op_alloc, ↓op_box, ↓op_build, ↓op_buildSlice, ↓op_load, ↓op_store, ↓op_nilCheck, ↓op_bin, ↓op_un, ↓op_convert, ↓op_makeFunc, ↓op_makeSlice, ↓op_slice, ↓op_fieldAddr, ↓op_field, ↓op_indexAddr, ↓op_index, ↓op_extract, ↓op_lookup, ↓op_mapUpdate, ↓op_makeMap, ↓op_range, ↓op_next, ↓op_call, ↓op_builtin, ↓g_tt, ↓g_ff, ↓g_tf, ↓g_ft, ↓g_tnt, ↓g_tnf, ↓g_fnt, ↓g_fnf, ↓mkT_getD, hpu, hpu2, z1, z2, z3]
  exact ⟨⟨hwl, hok⟩, ⟨hiv, hok2⟩, VEnt.of_eq rfl⟩

theorem tScreen_ok : Holds Proofs.Tryd.prog G0 36 screenC := by
  refine Holds.of_exC D36 Proofs.Tryd.func36 rfl foll (by kernel_rfl) (tab [(61, depthsC), (62, timesC), (63, factorC), (iceKey 6, iceC)]) (tab_ok ⟨tDepths_ok, tTimes_ok, tFactor_ok, ice_holds, trivial⟩) G0_ok fun k0 rl args hpu hpre => ?_
  unfold screenC at hpre ⊢
  split at hpre
  rotate_left
  · exact hpre.elim
  rename_i n sz get nt st gt sx sy sz' rx ry rz e
  obtain ⟨rfl, hwl, hok, rfl, hiv, hok2, hs, hr, he, he2⟩ := hpre
  have hpu := hwl.pu
  have hpu2 := hiv.pu
  have hf := fac_bd hok2 (sumI (wDepth get sx sy sz' rx ry rz) n) (Nat.le_refl nt)
  simp only [Proofs.Tryd.f36]
  rw [enter_mkT (Nat.le_of_ble_eq_true rfl)]
  simp (maxSteps := 4000000) only [go_sem, ↓op_move, ↓op_assign, ↓op_pick, ↓op_alloc, ↓op_box, ↓op_build, ↓op_buildSlice, ↓op_load, ↓op_store, ↓op_nilCheck, ↓op_bin, ↓op_un, ↓op_convert, ↓op_makeFunc, ↓op_makeSlice, ↓op_slice, ↓op_fieldAddr, ↓op_field, ↓op_indexAddr, ↓op_index, ↓op_extract, ↓op_lookup, ↓op_mapUpdate, ↓op_makeMap, ↓op_range, ↓op_next, ↓op_call, ↓op_builtin, ↓g_tt, ↓g_ff, ↓g_tf, ↓g_ft, ↓g_tnt, ↓g_tnf, ↓g_fnt, ↓g_fnf, ↓mkT_getD, hpu, hpu2]
  exact ⟨⟨hwl, hok, hs, hr⟩, ⟨hiv, hok2⟩, ⟨he, he2, hf⟩, VEnt.of_eq rfl⟩

theorem tScreen2_ok : Holds Proofs.Tryd.prog G0 13 screen2C := by
  refine Holds.of_exC D13 Proofs.Tryd.func13 rfl foll (by kernel_rfl) (tab [(35, heardOkC), (36, screenC), (iceKey 6, iceC)]) (tab_ok ⟨tHeard_ok, tScreen_ok, ice_holds, trivial⟩) G0_ok fun k0 rl args hpu hpre => ?_
  unfold screen2C at hpre ⊢
  split at hpre
  rotate_left
  · exact hpre.elim
  rename_i n sz get nt st gt sx sy sz' rx ry rz e
  obtain ⟨rfl, hwl, hok, rfl, hiv, hok2, hs, hr, he, he2⟩ := hpre
  have hpu := hwl.pu
  have hpu2 := hiv.pu
  have hc : (0 : Int) = 0 := rfl
  simp only [Proofs.Tryd.f13]
  rw [enter_mkT (Nat.le_of_ble_eq_true rfl)]
  simp (maxSteps := 4000000) only [go_sem, ↓op_move, ↓op_assign, ↓op_pick, ↓op_alloc, ↓op_box, ↓op_build, ↓op_buildSlice, ↓op_load, ↓op_store, ↓op_nilCheck, ↓op_bin, ↓op_un, ↓op_convert, ↓op_makeFunc, ↓op_makeSlice, ↓op_slice, ↓op_fieldAddr, ↓op_field, ↓op_indexAddr, ↓op_index, ↓op_extract, ↓op_lookup, ↓op_mapUpdate, ↓op_makeMap, ↓op_range, ↓op_next, ↓op_call, ↓op_builtin, ↓g_tt, ↓g_ff, ↓g_tf, ↓g_ft, ↓g_tnt, ↓g_tnf, ↓g_fnt, ↓g_fnf, ↓mkT_getD, hpu, hpu2]
  exact ⟨⟨hwl, hok, hiv, hok2, hs, hr, he, he2⟩, ⟨hwl, hok, hiv, hok2, hs, hr, he, he2⟩, VEnt.of_eq rfl⟩
end Go.Fly.Tryd
