/- The reference's transmittances, and the law on them. -/
import Derived.Test.YtmlknpghkclffaaGreatDoorSYAHA
import Derived.Test.YtmlknpghkclffaaGreatDoorAY
set_option linter.unusedSimpArgs false
set_option linter.unusedVariables false
set_option maxRecDepth 100000
set_option maxHeartbeats 4000000
namespace Go.Fly.Tryz
open Go

theorem qFlr_ok : Holds Proofs.Tryz.prog G0 116 flrC := by
  refine Holds.of_exC D116 Proofs.Tryz.func116 rfl foll (by kernel_rfl) (tab []) (tab_ok trivial) G0_ok fun k0 rl args hpu hpre => ?_
  unfold flrC at hpre ⊢
  split at hpre
  rotate_left
  · exact hpre.elim
  rename_i a b
  obtain ⟨h1, h2, h3, h4⟩ := hpre
  have hq : -4000000000000000000 ≤ a.tdiv b ∧ a.tdiv b ≤ 4000000000000000000 := by
    obtain ⟨b, rfl⟩ := Int.eq_ofNat_of_zero_le (show 0 ≤ b by omega)
    exact tdiv_in b h1 h2
  have h5 := Int.ediv_mul_le a (show b ≠ 0 by omega)
  have h6 := Int.lt_ediv_add_one_mul_self a h3
  rw [Int.add_mul, Int.one_mul] at h6
  rcases floor_t (a := a) h3 with ⟨q1, q2⟩ | ⟨q1, q2⟩
  · have hd : decide (a < a.tdiv b * b) = false := decide_eq_false (by omega)
    simp only [Proofs.Tryz.f116]
    rw [enter_mkT (Nat.le_of_ble_eq_true rfl)]
    simp (maxSteps := 4000000) only [go_sem, ↓op_move, ↓op_assign, ↓op_pick, ↓op_alloc, ↓op_box, ↓op_build, ↓op_buildSlice, ↓op_load, ↓op_store, ↓op_nilCheck, ↓op_bin, ↓op_un, ↓op_convert, ↓op_makeFunc, ↓op_makeSlice, ↓op_slice, ↓op_fieldAddr, ↓op_field, ↓op_indexAddr, ↓op_index, ↓op_extract, ↓op_lookup, ↓op_mapUpdate, ↓op_makeMap, ↓op_range, ↓op_next, ↓op_call, ↓op_builtin, ↓g_tt, ↓g_ff, ↓g_tf, ↓g_ft, ↓g_tnt, ↓g_tnf, ↓g_fnt, ↓g_fnf, ↓mkT_getD, hd]
    rw [q2] at hq q1 ⊢
    exact ⟨⟨by omega, inK_of (by omega) (by omega)⟩, inK_of (by omega) (by omega), VEnt.refl _⟩
  · have hd : decide (a < a.tdiv b * b) = true := decide_eq_true q1
    simp only [Proofs.Tryz.f116]
    rw [enter_mkT (Nat.le_of_ble_eq_true rfl)]
    simp (maxSteps := 4000000) only [go_sem, ↓op_move, ↓op_assign, ↓op_pick, ↓op_alloc, ↓op_box, ↓op_build, ↓op_buildSlice, ↓op_load, ↓op_store, ↓op_nilCheck, ↓op_bin, ↓op_un, ↓op_convert, ↓op_makeFunc, ↓op_makeSlice, ↓op_slice, ↓op_fieldAddr, ↓op_field, ↓op_indexAddr, ↓op_index, ↓op_extract, ↓op_lookup, ↓op_mapUpdate, ↓op_makeMap, ↓op_range, ↓op_next, ↓op_call, ↓op_builtin, ↓g_tt, ↓g_ff, ↓g_tf, ↓g_ft, ↓g_tnt, ↓g_tnf, ↓g_fnt, ↓g_fnf, ↓mkT_getD, hd]
    have e : a.tdiv b = a / b + 1 := by omega
    rw [e] at hq q1 ⊢
    rw [Int.add_mul, Int.one_mul] at q1 ⊢
    exact ⟨⟨by omega, inK_of (by omega) (by omega)⟩, inK_of (by omega) (by omega), inK_of (by omega) (by omega), VEnt.of_eq (by rw [Int.add_sub_cancel])⟩

theorem qCel_ok : Holds Proofs.Tryz.prog G0 117 celC := by
  refine Holds.of_exC D117 Proofs.Tryz.func117 rfl foll (by kernel_rfl) (tab [(116, flrC)]) (tab_ok ⟨qFlr_ok, trivial⟩) G0_ok fun k0 rl args hpu hpre => ?_
  unfold celC at hpre ⊢
  split at hpre
  rotate_left
  · exact hpre.elim
  rename_i a b
  obtain ⟨h1, h2, h3, h4⟩ := hpre
  have hc := ceil_t (a := a) h3
  have hq : -4000000000000000000 ≤ (0 - a) / b ∧ (0 - a) / b ≤ 4000000000000000000 := by
    have h5 := Int.ediv_mul_le (0 - a) (show b ≠ 0 by omega)
    have h6 := Int.lt_ediv_add_one_mul_self (0 - a) h3
    rcases floor_t (a := 0 - a) h3 with ⟨q1, q2⟩ | ⟨q1, q2⟩
    · obtain ⟨b, rfl⟩ := Int.eq_ofNat_of_zero_le (show 0 ≤ b by omega)
      have := tdiv_in (x := 0 - a) (m := 3000000000000000000) b (by omega) (by omega)
      omega
    · obtain ⟨b, rfl⟩ := Int.eq_ofNat_of_zero_le (show 0 ≤ b by omega)
      have := tdiv_in (x := 0 - a) (m := 3000000000000000000) b (by omega) (by omega)
      omega
  simp only [Proofs.Tryz.f117]
  rw [enter_mkT (Nat.le_of_ble_eq_true rfl)]
  simp (maxSteps := 4000000) only [go_sem, ↓op_move, ↓op_assign, ↓op_pick, ↓op_alloc, ↓op_box, ↓op_build, ↓op_buildSlice, ↓op_load, ↓op_store, ↓op_nilCheck, ↓op_bin, ↓op_un, ↓op_convert, ↓op_makeFunc, ↓op_makeSlice, ↓op_slice, ↓op_fieldAddr, ↓op_field, ↓op_indexAddr, ↓op_index, ↓op_extract, ↓op_lookup, ↓op_mapUpdate, ↓op_makeMap, ↓op_range, ↓op_next, ↓op_call, ↓op_builtin, ↓g_tt, ↓g_ff, ↓g_tf, ↓g_ft, ↓g_tnt, ↓g_tnf, ↓g_fnt, ↓g_fnf, ↓mkT_getD]
  exact ⟨inK_of (by omega) (by omega), ⟨by omega, by omega, h3, h4⟩, inK_of (by omega) (by omega), VEnt.of_eq (by rw [hc])⟩

theorem rEchoS_ok : Holds Proofs.Tryz.prog G0 108 echoSC := by
  refine Holds.of_exC D108 Proofs.Tryz.func108 rfl foll (by kernel_rfl) (tab [(101, rootsRC), (102, sqRC), (103, winC), (iceKey 3, iceC)]) (tab_ok ⟨rRoots_ok, rSqr_ok, rWin_ok, ice_holds, trivial⟩) G0_ok fun k0 rl args hpu hpre => ?_
  unfold echoSC at hpre ⊢
  split at hpre
  rotate_left
  · exact hpre.elim
  rename_i n sz get a b c d e f
  obtain ⟨rfl, hair, hok, hpath⟩ := hpre
  have hp := hair.pu
  have hn := hok.cnt
  have hec := ech_bd hpath
  have hpath' := hpath
  obtain ⟨⟨p1, p2, p3⟩, ⟨p4, p5, p6⟩, p7⟩ := hpath'
  simp only [Proofs.Tryz.f108]
  rw [enter_mkT (Nat.le_of_ble_eq_true rfl)]
  simp (maxSteps := 4000000) only [go_sem, ↓op_move, ↓op_assign, ↓op_pick, ↓op_alloc, ↓op_box, ↓op_build, ↓op_buildSlice, ↓op_load, ↓op_store, ↓op_nilCheck, ↓op_bin, ↓op_un, ↓op_convert, ↓op_makeFunc, ↓op_makeSlice, ↓op_slice, ↓op_fieldAddr, ↓op_field, ↓op_indexAddr, ↓op_index, ↓op_extract, ↓op_lookup, ↓op_mapUpdate, ↓op_makeMap, ↓op_range, ↓op_next, ↓op_call, ↓op_builtin, ↓g_tt, ↓g_ff, ↓g_tf, ↓g_ft, ↓g_tnt, ↓g_tnf, ↓g_fnt, ↓g_fnf, ↓mkT_getD, hp]
  refine ⟨inK_of (by omega) (by omega), ?_⟩
  refine RestT.ents (Ents.nilArr (d := 6) (l := (5, 1000)) 2 (fun _ => []) rfl rfl rfl) ?_
  simp (maxSteps := 4000000) only [go_sem, ↓op_move, ↓op_assign, ↓op_pick, ↓op_alloc, ↓op_box, ↓op_build, ↓op_buildSlice, ↓op_load, ↓op_store, ↓op_nilCheck, ↓op_bin, ↓op_un, ↓op_convert, ↓op_makeFunc, ↓op_makeSlice, ↓op_slice, ↓op_fieldAddr, ↓op_field, ↓op_indexAddr, ↓op_index, ↓op_extract, ↓op_lookup, ↓op_mapUpdate, ↓op_makeMap, ↓op_range, ↓op_next, ↓op_call, ↓op_builtin, ↓g_tt, ↓g_ff, ↓g_tf, ↓g_ft, ↓g_tnt, ↓g_tnf, ↓g_fnt, ↓g_fnf, ↓mkT_getD]
  refine RestT.loopF (β := Nat) [(6, 8), (16, 49)] (fun i => [(6, .msl (5, 1000) 0 i), (7, .int .i64 i)]) (fun i => updH (fun _ => none) (5, 1000) (.arr i 2 (fun i => [.int .i64 (stLo n get (ech a b c d e f) 0 c 0 f 0 i), .int .i64 (stHi n get (ech a b c d e f) 0 c 0 f 0 i)]))) (fun i => i ≤ n) (fun i => n - i) 0 (Nat.zero_le _) ?_
    (HpLe.arr1 (updH_same _ _ _) rfl rfl fun i hi => by omega) ?_
  · simp (maxSteps := 4000000) only [go_sem, ↓op_move, ↓op_assign, ↓op_pick, ↓op_alloc, ↓op_box, ↓op_build, ↓op_buildSlice, ↓op_load, ↓op_store, ↓op_nilCheck, ↓op_bin, ↓op_un, ↓op_convert, ↓op_makeFunc, ↓op_makeSlice, ↓op_slice, ↓op_fieldAddr, ↓op_field, ↓op_indexAddr, ↓op_index, ↓op_extract, ↓op_lookup, ↓op_mapUpdate, ↓op_makeMap, ↓op_range, ↓op_next, ↓op_call, ↓op_builtin, ↓g_tt, ↓g_ff, ↓g_tf, ↓g_ft, ↓g_tnt, ↓g_tnf, ↓g_fnt, ↓g_fnf, ↓mkT_getD]
    try exact rfl
  · intro ck i hck hi
    generalize hq0 : exC _ _ _ _ _ = gg
    by_cases hlt : i < n
    · have hd : decide ((i : Int) < (n : Int)) = true := by simp; omega
      have hti : ((i : Int)).toNat = i := Int.toNat_natCast i
      have hS : (d - a) * (d - a) + (e - b) * (e - b) + (c + f) * (c + f) = ech a b c d e f := by unfold ech; rw [Int.add_comm c f]
      have o1 := over_bd (b := botE get i) (t := topE n get i) p3.1
      have o2 := over_bd (b := botE get i) (t := topE n get i) p6.1
      rw [← winR_0 hok hlt p3.1 (by omega)] at o1
      rw [← winR_0 hok hlt p6.1 (by omega)] at o2
      by_cases hz : c + f = 0
      · have hz2 : decide (c + f = 0) = true := decide_eq_true hz
        have hm : max 1 (c + f) = 1 := by omega
        by_cases hat : (i : Int) = 0
        · have ha2 : decide ((i : Int) = 0) = true := decide_eq_true hat
          rw [← hq0]
          clear hq0
          simp (maxSteps := 4000000) only [go_sem, ↓op_move, ↓op_assign, ↓op_pick, ↓op_alloc, ↓op_box, ↓op_build, ↓op_buildSlice, ↓op_load, ↓op_store, ↓op_nilCheck, ↓op_bin, ↓op_un, ↓op_convert, ↓op_makeFunc, ↓op_makeSlice, ↓op_slice, ↓op_fieldAddr, ↓op_field, ↓op_indexAddr, ↓op_index, ↓op_extract, ↓op_lookup, ↓op_mapUpdate, ↓op_makeMap, ↓op_range, ↓op_next, ↓op_call, ↓op_builtin, ↓g_tt, ↓g_ff, ↓g_tf, ↓g_ft, ↓g_tnt, ↓g_tnf, ↓g_fnt, ↓g_fnf, ↓mkT_getD, hd, hp, hti, hS, hz2, ha2, hm]
          have e1 := ec_flat (i := i) hok hz
          rw [if_pos hat] at e1
          have hrow : [V.int .i64 (stLo n get (ech a b c d e f) 0 c 0 f 0 i), V.int .i64 (stHi n get (ech a b c d e f) 0 c 0 f 0 i)] = [V.int .i64 (rootE (ech a b c d e f * 1 * 1) 10000), V.int .i64 (rootUp (ech a b c d e f * 1 * 1) 10000)] := by
            unfold stLo stHi
            rw [e1.1, e1.2]
            rfl
          exact ⟨⟨hair, hok, ⟨by omega, by omega⟩, by omega, by omega⟩, ⟨hair, hok, ⟨by omega, by omega⟩, by omega, by omega⟩, inK_of (by omega) (by omega), ⟨hpath, by omega, by omega⟩, inK_of (by decide) (by decide), ⟨hec.1, hec.2.1⟩, ⟨by omega, by omega, row_ok rfl ones2⟩, inK_of (by omega) (by omega), i + 1, hlt, by omega, ⟨rfl, by rw [Int.natCast_add]; rfl⟩, HpLe.arr1 (updH_same _ _ _) rfl rfl fun j hj => snoc (f := fun i => [V.int .i64 (stLo n get (ech a b c d e f) 0 c 0 f 0 i), V.int .i64 (stHi n get (ech a b c d e f) 0 c 0 f 0 i)]) rfl hrow hj⟩
        · have ha2 : decide ((i : Int) = 0) = false := decide_eq_false hat
          rw [← hq0]
          clear hq0
          simp (maxSteps := 4000000) only [go_sem, ↓op_move, ↓op_assign, ↓op_pick, ↓op_alloc, ↓op_box, ↓op_build, ↓op_buildSlice, ↓op_load, ↓op_store, ↓op_nilCheck, ↓op_bin, ↓op_un, ↓op_convert, ↓op_makeFunc, ↓op_makeSlice, ↓op_slice, ↓op_fieldAddr, ↓op_field, ↓op_indexAddr, ↓op_index, ↓op_extract, ↓op_lookup, ↓op_mapUpdate, ↓op_makeMap, ↓op_range, ↓op_next, ↓op_call, ↓op_builtin, ↓g_tt, ↓g_ff, ↓g_tf, ↓g_ft, ↓g_tnt, ↓g_tnf, ↓g_fnt, ↓g_fnf, ↓mkT_getD, hd, hp, hti, hS, hz2, ha2, hm]
          have e1 := ec_flat (i := i) hok hz
          rw [if_neg hat] at e1
          have hrow : [V.int .i64 (stLo n get (ech a b c d e f) 0 c 0 f 0 i), V.int .i64 (stHi n get (ech a b c d e f) 0 c 0 f 0 i)] = [V.int .i64 (rootE (ech a b c d e f * 0 * 0) 10000), V.int .i64 (rootUp (ech a b c d e f * 0 * 0) 10000)] := by
            unfold stLo stHi
            rw [e1.1, e1.2]
            rfl
          exact ⟨⟨hair, hok, ⟨by omega, by omega⟩, by omega, by omega⟩, ⟨hair, hok, ⟨by omega, by omega⟩, by omega, by omega⟩, inK_of (by omega) (by omega), ⟨hpath, by omega, by omega⟩, inK_of (by decide) (by decide), ⟨hec.1, hec.2.1⟩, ⟨by omega, by omega, row_ok rfl ones2⟩, inK_of (by omega) (by omega), i + 1, hlt, by omega, ⟨rfl, by rw [Int.natCast_add]; rfl⟩, HpLe.arr1 (updH_same _ _ _) rfl rfl fun j hj => snoc (f := fun i => [V.int .i64 (stLo n get (ech a b c d e f) 0 c 0 f 0 i), V.int .i64 (stHi n get (ech a b c d e f) 0 c 0 f 0 i)]) rfl hrow hj⟩
      · have hz2 : decide (c + f = 0) = false := decide_eq_false hz
        have hm : max 1 (c + f) = c + f := by omega
        rw [← hq0]
        clear hq0
        simp (maxSteps := 4000000) only [go_sem, ↓op_move, ↓op_assign, ↓op_pick, ↓op_alloc, ↓op_box, ↓op_build, ↓op_buildSlice, ↓op_load, ↓op_store, ↓op_nilCheck, ↓op_bin, ↓op_un, ↓op_convert, ↓op_makeFunc, ↓op_makeSlice, ↓op_slice, ↓op_fieldAddr, ↓op_field, ↓op_indexAddr, ↓op_index, ↓op_extract, ↓op_lookup, ↓op_mapUpdate, ↓op_makeMap, ↓op_range, ↓op_next, ↓op_call, ↓op_builtin, ↓g_tt, ↓g_ff, ↓g_tf, ↓g_ft, ↓g_tnt, ↓g_tnf, ↓g_fnt, ↓g_fnf, ↓mkT_getD, hd, hp, hti, hS, hz2, hm]
        have e1 := ec_slant hok hlt hz p3 p6
        have hrow : [V.int .i64 (stLo n get (ech a b c d e f) 0 c 0 f 0 i), V.int .i64 (stHi n get (ech a b c d e f) 0 c 0 f 0 i)] = [V.int .i64 (rootE (ech a b c d e f * (winR n get i c + winR n get i f) * (winR n get i c + winR n get i f)) ((c + f) * 100 * ((c + f) * 100))), V.int .i64 (rootUp (ech a b c d e f * (winR n get i c + winR n get i f) * (winR n get i c + winR n get i f)) ((c + f) * 100 * ((c + f) * 100)))] := by
          unfold stLo stHi
          rw [e1.1, e1.2, show (c + f) * (c + f) * 100 * 100 = (c + f) * 100 * ((c + f) * 100) by ac_rfl]
        exact ⟨⟨hair, hok, ⟨by omega, by omega⟩, by omega, by omega⟩, ⟨hair, hok, ⟨by omega, by omega⟩, by omega, by omega⟩, inK_of (by omega) (by omega), ⟨hpath, by omega, by omega⟩, inK_of (by omega) (by omega), ⟨⟨hec.1, hec.2.1⟩, ⟨by omega, by omega⟩, ⟨by omega, by omega⟩, by omega⟩, ⟨by omega, by omega, row_ok rfl ones2⟩, inK_of (by omega) (by omega), i + 1, hlt, by omega, ⟨rfl, by rw [Int.natCast_add]; rfl⟩, HpLe.arr1 (updH_same _ _ _) rfl rfl fun j hj => snoc (f := fun i => [V.int .i64 (stLo n get (ech a b c d e f) 0 c 0 f 0 i), V.int .i64 (stHi n get (ech a b c d e f) 0 c 0 f 0 i)]) rfl hrow hj⟩
    · have hd : decide ((i : Int) < (n : Int)) = false := by simp; omega
      obtain rfl : i = n := by omega
      rw [← hq0]
      clear hq0
      simp (maxSteps := 4000000) only [go_sem, ↓op_move, ↓op_assign, ↓op_pick, ↓op_alloc, ↓op_box, ↓op_build, ↓op_buildSlice, ↓op_load, ↓op_store, ↓op_nilCheck, ↓op_bin, ↓op_un, ↓op_convert, ↓op_makeFunc, ↓op_makeSlice, ↓op_slice, ↓op_fieldAddr, ↓op_field, ↓op_indexAddr, ↓op_index, ↓op_extract, ↓op_lookup, ↓op_mapUpdate, ↓op_makeMap, ↓op_range, ↓op_next, ↓op_call, ↓op_builtin, ↓g_tt, ↓g_ff, ↓g_tf, ↓g_ft, ↓g_tnt, ↓g_tnf, ↓g_fnt, ↓g_fnf, ↓mkT_getD, hd, hp, Nat.zero_add]
      exact VEnt.refl _

theorem rAfter_ok : Holds Proofs.Tryz.prog G0 107 passedC := by
  refine Holds.of_exC D107 Proofs.Tryz.func107 rfl foll (by kernel_rfl) (tab [(116, flrC), (117, celC)]) (tab_ok ⟨qFlr_ok, qCel_ok, trivial⟩) G0_ok fun k0 rl args hpu hpre => ?_
  unfold passedC at hpre ⊢
  split at hpre
  rotate_left
  · exact hpre.elim
  rename_i n sz get n' sz' st
  obtain ⟨rfl, hair, hok, rfl, rfl, hst, hb⟩ := hpre
  have hp := hair.pu
  have hps := hst.pu
  have hn8 := hok.cnt
  have hbands := hok.bands
  obtain ⟨hg0, hiv0⟩ := hair.2 0 hok.cnt.1
  have hp0 := hiv0.pu
  simp only [Proofs.Tryz.f107]
  rw [enter_mkT (Nat.le_of_ble_eq_true rfl)]
  simp (maxSteps := 4000000) only [go_sem, ↓op_move, ↓op_assign, ↓op_pick, ↓op_alloc, ↓op_box, ↓op_build, ↓op_buildSlice, ↓op_load, ↓op_store, ↓op_nilCheck, ↓op_bin, ↓op_un, ↓op_convert, ↓op_makeFunc, ↓op_makeSlice, ↓op_slice, ↓op_fieldAddr, ↓op_field, ↓op_indexAddr, ↓op_index, ↓op_extract, ↓op_lookup, ↓op_mapUpdate, ↓op_makeMap, ↓op_range, ↓op_next, ↓op_call, ↓op_builtin, ↓g_tt, ↓g_ff, ↓g_tf, ↓g_ft, ↓g_tnt, ↓g_tnf, ↓g_fnt, ↓g_fnf, ↓mkT_getD, hp, hps]
  refine RestT.ents (Ents.nilArr (d := 5) (l := (4, 1000)) 2 (fun _ => []) rfl rfl rfl) ?_
  simp only [go_sem, ↓op_move, ↓op_assign, ↓op_pick, ↓op_alloc, ↓op_box, ↓op_build, ↓op_buildSlice, ↓op_load, ↓op_store, ↓op_nilCheck, ↓op_bin, ↓op_un, ↓op_convert, ↓op_makeFunc, ↓op_makeSlice, ↓op_slice, ↓op_fieldAddr, ↓op_field, ↓op_indexAddr, ↓op_index, ↓op_extract, ↓op_lookup, ↓op_mapUpdate, ↓op_makeMap, ↓op_range, ↓op_next, ↓op_call, ↓op_builtin, ↓g_tt, ↓g_ff, ↓g_tf, ↓g_ft, ↓g_tnt, ↓g_tnf, ↓g_fnt, ↓g_fnf, ↓mkT_getD]
  obtain ⟨hl, hhl⟩ : ∃ hl : Nat → Int, hl = fun i => cell st i 1 := ⟨_, rfl⟩
  obtain ⟨hh, hhh⟩ : ∃ hh : Nat → Int, hh = fun i => cell st i 0 := ⟨_, rfl⟩
  rw [← hhl, ← hhh]
  refine RestT.loopF (β := Nat) [(5, 74)] (fun i => [(5, .msl (4, 1000) 0 i), (6, .int .i64 i)]) (fun i => updH (fun _ => none) (4, 1000) (.arr i 2 (fun b => [.int .i64 (passLo get hl b n'), .int .i64 (passHi get hh b n')])))
    (fun i => i ≤ inN get 0 4) (fun i => inN get 0 4 - i) 0 (Nat.zero_le _) ?_ (HpLe.arr1 (updH_same _ _ _) rfl rfl fun j hj => by omega) ?_
  · simp (maxSteps := 4000000) only [go_sem, ↓op_move, ↓op_assign, ↓op_pick, ↓op_alloc, ↓op_box, ↓op_build, ↓op_buildSlice, ↓op_load, ↓op_store, ↓op_nilCheck, ↓op_bin, ↓op_un, ↓op_convert, ↓op_makeFunc, ↓op_makeSlice, ↓op_slice, ↓op_fieldAddr, ↓op_field, ↓op_indexAddr, ↓op_index, ↓op_extract, ↓op_lookup, ↓op_mapUpdate, ↓op_makeMap, ↓op_range, ↓op_next, ↓op_call, ↓op_builtin, ↓g_tt, ↓g_ff, ↓g_tf, ↓g_ft, ↓g_tnt, ↓g_tnf, ↓g_fnt, ↓g_fnf, ↓mkT_getD]
    try exact rfl
  · intro ck b hck hbb
    generalize hq0 : exC _ _ _ _ _ = gg
    by_cases hlt : b < inN get 0 4
    · have hd : decide ((b : Int) < (inN get 0 4 : Int)) = true := by simp; omega
      rw [← hq0]
      clear hq0
      simp (maxSteps := 4000000) only [go_sem, ↓op_move, ↓op_assign, ↓op_pick, ↓op_alloc, ↓op_box, ↓op_build, ↓op_buildSlice, ↓op_load, ↓op_store, ↓op_nilCheck, ↓op_bin, ↓op_un, ↓op_convert, ↓op_makeFunc, ↓op_makeSlice, ↓op_slice, ↓op_fieldAddr, ↓op_field, ↓op_indexAddr, ↓op_index, ↓op_extract, ↓op_lookup, ↓op_mapUpdate, ↓op_makeMap, ↓op_range, ↓op_next, ↓op_call, ↓op_builtin, ↓g_tt, ↓g_ff, ↓g_tf, ↓g_ft, ↓g_tnt, ↓g_tnf, ↓g_fnt, ↓g_fnf, ↓mkT_getD, hd, hp, hps, hg0, hp0]
      have hcell : ∀ i, i < n' → 0 ≤ cell (inG get i 4) b 0 ∧ cell (inG get i 4) b 0 ≤ 1000 ∧ 0 ≤ cell (inG get i 4) b 1 ∧ cell (inG get i 4) b 1 ≤ 1000 := fun i hi => by
        have := hok.pass i hi b hlt; omega
      refine ⟨by omega, ?_⟩
      refine RestT.loopF (β := Nat) [(7, 11), (21, 68)] (fun i => [(7, .int .i64 (passLo get hl b i)), (8, .int .i64 (passHi get hh b i)), (9, .int .i64 i)]) (fun i => _)
        (fun i => i ≤ n') (fun i => n' - i) 0 (Nat.zero_le _) ?_ (HpLe.refl _) ?_
      · simp (maxSteps := 4000000) only [go_sem, ↓op_move, ↓op_assign, ↓op_pick, ↓op_alloc, ↓op_box, ↓op_build, ↓op_buildSlice, ↓op_load, ↓op_store, ↓op_nilCheck, ↓op_bin, ↓op_un, ↓op_convert, ↓op_makeFunc, ↓op_makeSlice, ↓op_slice, ↓op_fieldAddr, ↓op_field, ↓op_indexAddr, ↓op_index, ↓op_extract, ↓op_lookup, ↓op_mapUpdate, ↓op_makeMap, ↓op_range, ↓op_next, ↓op_call, ↓op_builtin, ↓g_tt, ↓g_ff, ↓g_tf, ↓g_ft, ↓g_tnt, ↓g_tnf, ↓g_fnt, ↓g_fnf, ↓mkT_getD]
        exact ⟨rfl, rfl⟩
      · intro ck2 i hck2 hi
        generalize hq0 : exC _ _ _ _ _ = gg
        by_cases hlt2 : i < n'
        · have hd2 : decide ((i : Int) < (n' : Int)) = true := by simp; omega
          obtain ⟨hg, hiv⟩ := hair.2 i hlt2
          have hp2 := hiv.pu
          have hgs := hst.2 i hlt2
          have hci := hcell i hlt2
          have hbi := hb i hlt2
          have hpb := pass_bd (get := get) (hl := hl) (hh := hh) (b := b) (n := i) fun j hj => hcell j (by omega)
          have hgb := hiv.2 b (by rw [hok.same i hlt2]; exact hlt)
          have hlen := hok.same i hlt2
          obtain ⟨kl, hkl⟩ : ∃ kl : Nat, cell st i 1 = kl := ⟨(cell st i 1).toNat, by omega⟩
          obtain ⟨kh, hkh⟩ : ∃ kh : Nat, cell st i 0 = kh := ⟨(cell st i 0).toNat, by omega⟩
          have hle : hl i = kl := by rw [hhl]; exact hkl
          have hhe : hh i = kh := by rw [hhh]; exact hkh
          rw [hkl, hkh] at hgs
          rw [← hq0]
          clear hq0
          simp (maxSteps := 4000000) only [go_sem, ↓op_move, ↓op_assign, ↓op_pick, ↓op_alloc, ↓op_box, ↓op_build, ↓op_buildSlice, ↓op_load, ↓op_store, ↓op_nilCheck, ↓op_bin, ↓op_un, ↓op_convert, ↓op_makeFunc, ↓op_makeSlice, ↓op_slice, ↓op_fieldAddr, ↓op_field, ↓op_indexAddr, ↓op_index, ↓op_extract, ↓op_lookup, ↓op_mapUpdate, ↓op_makeMap, ↓op_range, ↓op_next, ↓op_call, ↓op_builtin, ↓g_tt, ↓g_ff, ↓g_tf, ↓g_ft, ↓g_tnt, ↓g_tnf, ↓g_fnt, ↓g_fnf, ↓mkT_getD, hd2, hg, hgs, hp, hps, hp2]
          refine RestT.loopF (β := Nat) [(7, 7), (10, 10), (27, 47)] (fun k => [(7, .int .i64 (downE (cell (inG get i 4) b 0) k (passLo get hl b i))), (10, .int .i64 k)]) (fun k => _) (fun k => k ≤ kl) (fun k => kl - k) 0 (Nat.zero_le _) ?_ (HpLe.refl _) ?_
          · simp (maxSteps := 4000000) only [go_sem, ↓op_move, ↓op_assign, ↓op_pick, ↓op_alloc, ↓op_box, ↓op_build, ↓op_buildSlice, ↓op_load, ↓op_store, ↓op_nilCheck, ↓op_bin, ↓op_un, ↓op_convert, ↓op_makeFunc, ↓op_makeSlice, ↓op_slice, ↓op_fieldAddr, ↓op_field, ↓op_indexAddr, ↓op_index, ↓op_extract, ↓op_lookup, ↓op_mapUpdate, ↓op_makeMap, ↓op_range, ↓op_next, ↓op_call, ↓op_builtin, ↓g_tt, ↓g_ff, ↓g_tf, ↓g_ft, ↓g_tnt, ↓g_tnf, ↓g_fnt, ↓g_fnf, ↓mkT_getD]
            first | exact rfl | exact ⟨rfl, rfl⟩ | simp [downE]
          · intro ck3 k hck3 hk
            generalize hq0 : exC _ _ _ _ _ = gg
            by_cases hlt3 : k < kl
            · have hd3 : decide ((k : Int) < (kl : Int)) = true := by simp; omega
              have hdb := down_bd hci.1 hci.2.1 (k := k) hpb.1.1
              have m1 := mul_le_of hdb.1 (show downE (cell (inG get i 4) b 0) k (passLo get hl b i) ≤ 1000 by omega) hci.1 hci.2.1
              rw [← hq0]
              clear hq0
              simp (maxSteps := 4000000) only [go_sem, ↓op_move, ↓op_assign, ↓op_pick, ↓op_alloc, ↓op_box, ↓op_build, ↓op_buildSlice, ↓op_load, ↓op_store, ↓op_nilCheck, ↓op_bin, ↓op_un, ↓op_convert, ↓op_makeFunc, ↓op_makeSlice, ↓op_slice, ↓op_fieldAddr, ↓op_field, ↓op_indexAddr, ↓op_index, ↓op_extract, ↓op_lookup, ↓op_mapUpdate, ↓op_makeMap, ↓op_range, ↓op_next, ↓op_call, ↓op_builtin, ↓g_tt, ↓g_ff, ↓g_tf, ↓g_ft, ↓g_tnt, ↓g_tnf, ↓g_fnt, ↓g_fnf, ↓mkT_getD, hd3, hg, hgb, hgs, hlen, hp, hps, hp2]
              exact ⟨⟨by omega, by omega⟩, ⟨by omega, by omega⟩, ⟨by omega, by omega⟩, inK_of (by omega) (by omega), ⟨by omega, by omega⟩, inK_of (by omega) (by omega), by omega, k + 1, hlt3, by omega, ⟨by rw [down_succ], by rw [Int.natCast_add]; rfl⟩, HpLe.refl _⟩
            · have hd3 : decide ((k : Int) < (kl : Int)) = false := by simp; omega
              obtain rfl : k = kl := by omega
              rw [← hq0]
              clear hq0
              simp (maxSteps := 4000000) only [go_sem, ↓op_move, ↓op_assign, ↓op_pick, ↓op_alloc, ↓op_box, ↓op_build, ↓op_buildSlice, ↓op_load, ↓op_store, ↓op_nilCheck, ↓op_bin, ↓op_un, ↓op_convert, ↓op_makeFunc, ↓op_makeSlice, ↓op_slice, ↓op_fieldAddr, ↓op_field, ↓op_indexAddr, ↓op_index, ↓op_extract, ↓op_lookup, ↓op_mapUpdate, ↓op_makeMap, ↓op_range, ↓op_next, ↓op_call, ↓op_builtin, ↓g_tt, ↓g_ff, ↓g_tf, ↓g_ft, ↓g_tnt, ↓g_tnf, ↓g_fnt, ↓g_fnf, ↓mkT_getD, hd3, hg, hgs, hlen, hp, hps, hp2]
              refine ⟨⟨by omega, by omega⟩, ?_⟩
              refine RestT.loopF (β := Nat) [(8, 8), (11, 11), (48, 68)] (fun j => [(8, .int .i64 (upE (cell (inG get i 4) b 1) j (passHi get hh b i))), (11, .int .i64 j)]) (fun j => _) (fun j => j ≤ kh) (fun j => kh - j) 0 (Nat.zero_le _) ?_ (HpLe.refl _) ?_
              · simp (maxSteps := 4000000) only [go_sem, ↓op_move, ↓op_assign, ↓op_pick, ↓op_alloc, ↓op_box, ↓op_build, ↓op_buildSlice, ↓op_load, ↓op_store, ↓op_nilCheck, ↓op_bin, ↓op_un, ↓op_convert, ↓op_makeFunc, ↓op_makeSlice, ↓op_slice, ↓op_fieldAddr, ↓op_field, ↓op_indexAddr, ↓op_index, ↓op_extract, ↓op_lookup, ↓op_mapUpdate, ↓op_makeMap, ↓op_range, ↓op_next, ↓op_call, ↓op_builtin, ↓g_tt, ↓g_ff, ↓g_tf, ↓g_ft, ↓g_tnt, ↓g_tnf, ↓g_fnt, ↓g_fnf, ↓mkT_getD]
                first | exact rfl | exact ⟨rfl, rfl⟩ | simp [upE]
              · intro ck4 j hck4 hj
                generalize hq1 : exC _ _ _ _ _ = gg1
                by_cases hlt4 : j < kh
                · have hd4 : decide ((j : Int) < (kh : Int)) = true := by simp; omega
                  have hub := up_bd hci.2.2.1 hci.2.2.2 (k := j) hpb.2.1
                  have m2 := mul_le_of hub.1 (show upE (cell (inG get i 4) b 1) j (passHi get hh b i) ≤ 1000 by omega) hci.2.2.1 hci.2.2.2
                  rw [← hq1]
                  clear hq1
                  simp (maxSteps := 4000000) only [go_sem, ↓op_move, ↓op_assign, ↓op_pick, ↓op_alloc, ↓op_box, ↓op_build, ↓op_buildSlice, ↓op_load, ↓op_store, ↓op_nilCheck, ↓op_bin, ↓op_un, ↓op_convert, ↓op_makeFunc, ↓op_makeSlice, ↓op_slice, ↓op_fieldAddr, ↓op_field, ↓op_indexAddr, ↓op_index, ↓op_extract, ↓op_lookup, ↓op_mapUpdate, ↓op_makeMap, ↓op_range, ↓op_next, ↓op_call, ↓op_builtin, ↓g_tt, ↓g_ff, ↓g_tf, ↓g_ft, ↓g_tnt, ↓g_tnf, ↓g_fnt, ↓g_fnf, ↓mkT_getD, hd4, hg, hgb, hgs, hlen, hp, hps, hp2]
                  refine ⟨⟨by omega, by omega⟩, ⟨by omega, by omega⟩, ⟨by omega, by omega⟩, inK_of (by omega) (by omega), ⟨by omega, by omega⟩, inK_of (by omega) (by omega), by omega, j + 1, hlt4, by omega, ⟨?_, by rw [Int.natCast_add]; rfl⟩, HpLe.refl _⟩
                  rw [up_succ, show ∀ x : Int, x + 1000 - 1 = x + 999 from fun x => by omega]
                · have hd4 : decide ((j : Int) < (kh : Int)) = false := by simp; omega
                  obtain rfl : j = kh := by omega
                  rw [← hq1]
                  clear hq1
                  simp (maxSteps := 4000000) only [go_sem, ↓op_move, ↓op_assign, ↓op_pick, ↓op_alloc, ↓op_box, ↓op_build, ↓op_buildSlice, ↓op_load, ↓op_store, ↓op_nilCheck, ↓op_bin, ↓op_un, ↓op_convert, ↓op_makeFunc, ↓op_makeSlice, ↓op_slice, ↓op_fieldAddr, ↓op_field, ↓op_indexAddr, ↓op_index, ↓op_extract, ↓op_lookup, ↓op_mapUpdate, ↓op_makeMap, ↓op_range, ↓op_next, ↓op_call, ↓op_builtin, ↓g_tt, ↓g_ff, ↓g_tf, ↓g_ft, ↓g_tnt, ↓g_tnf, ↓g_fnt, ↓g_fnf, ↓mkT_getD, hd4, hg, hgb, hgs, hlen, hp, hps, hp2]
                  exact ⟨⟨by omega, by omega⟩, inK_of (by omega) (by omega), by omega, i + 1, hlt2, by omega, ⟨by show _ = V.int _ (downE _ (hl i).toNat _); rw [hle, Int.toNat_natCast], by show _ = V.int _ (upE _ (hh i).toNat _); rw [hhe, Int.toNat_natCast], by rw [Int.natCast_add]; rfl⟩, HpLe.refl _⟩
        · have hd2 : decide ((i : Int) < (n' : Int)) = false := by simp; omega
          obtain rfl : i = n' := by omega
          rw [← hq0]
          clear hq0
          simp (maxSteps := 4000000) only [go_sem, ↓op_move, ↓op_assign, ↓op_pick, ↓op_alloc, ↓op_box, ↓op_build, ↓op_buildSlice, ↓op_load, ↓op_store, ↓op_nilCheck, ↓op_bin, ↓op_un, ↓op_convert, ↓op_makeFunc, ↓op_makeSlice, ↓op_slice, ↓op_fieldAddr, ↓op_field, ↓op_indexAddr, ↓op_index, ↓op_extract, ↓op_lookup, ↓op_mapUpdate, ↓op_makeMap, ↓op_range, ↓op_next, ↓op_call, ↓op_builtin, ↓g_tt, ↓g_ff, ↓g_tf, ↓g_ft, ↓g_tnt, ↓g_tnf, ↓g_fnt, ↓g_fnf, ↓mkT_getD, hd2, hp, hps]
          exact ⟨⟨by omega, by omega, row_ok rfl ones2⟩, inK_of (by omega) (by omega), by omega, b + 1, hlt, by omega, ⟨rfl, by rw [Int.natCast_add]; rfl⟩, HpLe.arr1 (updH_same _ _ _) rfl rfl fun j hj => snoc (f := fun b => [V.int .i64 (passLo get hl b i), V.int .i64 (passHi get hh b i)]) rfl rfl hj⟩
    · have hd : decide ((b : Int) < (inN get 0 4 : Int)) = false := by simp; omega
      obtain rfl : b = inN get 0 4 := by omega
      rw [← hq0]
      clear hq0
      simp (maxSteps := 4000000) only [go_sem, ↓op_move, ↓op_assign, ↓op_pick, ↓op_alloc, ↓op_box, ↓op_build, ↓op_buildSlice, ↓op_load, ↓op_store, ↓op_nilCheck, ↓op_bin, ↓op_un, ↓op_convert, ↓op_makeFunc, ↓op_makeSlice, ↓op_slice, ↓op_fieldAddr, ↓op_field, ↓op_indexAddr, ↓op_index, ↓op_extract, ↓op_lookup, ↓op_mapUpdate, ↓op_makeMap, ↓op_range, ↓op_next, ↓op_call, ↓op_builtin, ↓g_tt, ↓g_ff, ↓g_tf, ↓g_ft, ↓g_tnt, ↓g_tnf, ↓g_fnt, ↓g_fnf, ↓mkT_getD, hd, hp, hps, hg0, hp0, Nat.zero_add]
      exact ⟨by omega, VEnt.refl _⟩

theorem rPassed_ok : Holds Proofs.Tryz.prog G0 39 passRC := by
  refine Holds.of_exC D39 Proofs.Tryz.func39 rfl foll (by kernel_rfl) (tab [(34, stepsRC), (107, passedC), (iceKey 3, iceC)]) (tab_ok ⟨rSteps_ok, rAfter_ok, ice_holds, trivial⟩) G0_ok fun k0 rl args hpu hpre => ?_
  unfold passRC at hpre ⊢
  split at hpre
  rotate_left
  · exact hpre.elim
  rename_i n sz get a b c d e f
  obtain ⟨rfl, hair, hok, hpath⟩ := hpre
  have hp := hair.pu
  have hn := hok.cnt
  have hsq := sqE_bd hpath
  obtain ⟨⟨p1, p2, p3⟩, ⟨p4, p5, p6⟩, p7⟩ := id hpath
  have hst := fun i => stG_bd (n := n) (get := get) (flat := c) (sq := sqE a b c d e f) (y0 := 0) (y1 := 0) ⟨hsq.1, by omega⟩ (show min c f ≤ max c f by omega) (Int.le_refl 0) i
  simp only [Proofs.Tryz.f39]
  rw [enter_mkT (Nat.le_of_ble_eq_true rfl)]
  simp (maxSteps := 4000000) only [go_sem, ↓op_move, ↓op_assign, ↓op_pick, ↓op_alloc, ↓op_box, ↓op_build, ↓op_buildSlice, ↓op_load, ↓op_store, ↓op_nilCheck, ↓op_bin, ↓op_un, ↓op_convert, ↓op_makeFunc, ↓op_makeSlice, ↓op_slice, ↓op_fieldAddr, ↓op_field, ↓op_indexAddr, ↓op_index, ↓op_extract, ↓op_lookup, ↓op_mapUpdate, ↓op_makeMap, ↓op_range, ↓op_next, ↓op_call, ↓op_builtin, ↓g_tt, ↓g_ff, ↓g_tf, ↓g_ft, ↓g_tnt, ↓g_tnf, ↓g_fnt, ↓g_fnf, ↓mkT_getD, hp]
  exact ⟨⟨hair, hok, hpath⟩, ⟨hair, hok, isIv_fn _ _ hair.1, fun i hi => by have := hst i; omega⟩, VEnt.refl _⟩

theorem rEchoed_ok : Holds Proofs.Tryz.prog G0 40 echoRC := by
  refine Holds.of_exC D40 Proofs.Tryz.func40 rfl foll (by kernel_rfl) (tab [(107, passedC), (108, echoSC), (iceKey 3, iceC)]) (tab_ok ⟨rAfter_ok, rEchoS_ok, ice_holds, trivial⟩) G0_ok fun k0 rl args hpu hpre => ?_
  unfold echoRC at hpre ⊢
  split at hpre
  rotate_left
  · exact hpre.elim
  rename_i n sz get a b c d e f
  obtain ⟨rfl, hair, hok, hpath⟩ := hpre
  have hp := hair.pu
  have hn := hok.cnt
  have hec := ech_bd hpath
  obtain ⟨⟨p1, p2, p3⟩, ⟨p4, p5, p6⟩, p7⟩ := id hpath
  have hst := fun i => stG_bd (n := n) (get := get) (flat := 0) (sq := ech a b c d e f) (z0 := 0) (z1 := c) (y0 := 0) (y1 := f) ⟨hec.1, hec.2.1⟩ (by omega) (by omega) i
  simp only [Proofs.Tryz.f40]
  rw [enter_mkT (Nat.le_of_ble_eq_true rfl)]
  simp (maxSteps := 4000000) only [go_sem, ↓op_move, ↓op_assign, ↓op_pick, ↓op_alloc, ↓op_box, ↓op_build, ↓op_buildSlice, ↓op_load, ↓op_store, ↓op_nilCheck, ↓op_bin, ↓op_un, ↓op_convert, ↓op_makeFunc, ↓op_makeSlice, ↓op_slice, ↓op_fieldAddr, ↓op_field, ↓op_indexAddr, ↓op_index, ↓op_extract, ↓op_lookup, ↓op_mapUpdate, ↓op_makeMap, ↓op_range, ↓op_next, ↓op_call, ↓op_builtin, ↓g_tt, ↓g_ff, ↓g_tf, ↓g_ft, ↓g_tnt, ↓g_tnf, ↓g_fnt, ↓g_fnf, ↓mkT_getD, hp]
  exact ⟨⟨hair, hok, hpath⟩, ⟨hair, hok, isIv_fn _ _ hair.1, fun i hi => by have := hst i; omega⟩, VEnt.refl _⟩

theorem wPassed_ok : Holds Proofs.Tryz.prog G0 5 airPathC := by
  refine Holds.of_exC D5 Proofs.Tryz.func5 rfl foll (by kernel_rfl) (tab [(15, awakeC), (16, shortAirC), (17, airC), (19, ownAirC), (22, firstC), (30, toPathRC), (32, pathC), (36, ivsC), (37, passed3C), (38, echo3C), (39, passRC), (40, echoRC), (iceKey 3, iceC)]) (tab_ok ⟨lAwake_ok, rAirShort_ok, rAir_ok, lOwn_ok, qFirst_ok, lPath_ok, rPth_ok, lIvs_ok, gPassed3_ok, gEcho_ok, rPassed_ok, rEchoed_ok, ice_holds, trivial⟩) G0_ok fun k0 rl args hpu hpre => ?_
  unfold airPathC at hpre ⊢
  split at hpre
  rotate_left
  · exact hpre.elim
  rename_i n sz get a b c d e f
  obtain ⟨rfl, hair⟩ := hpre
  have hp := hair.pu
  have hn := hair.1
  cases hsh : shortAirB n get
  · simp only [Proofs.Tryz.f5]
    rw [enter_mkT (Nat.le_of_ble_eq_true rfl)]
    simp (maxSteps := 4000000) only [go_sem, ↓op_move, ↓op_assign, ↓op_pick, ↓op_alloc, ↓op_box, ↓op_build, ↓op_buildSlice, ↓op_load, ↓op_store, ↓op_nilCheck, ↓op_bin, ↓op_un, ↓op_convert, ↓op_makeFunc, ↓op_makeSlice, ↓op_slice, ↓op_fieldAddr, ↓op_field, ↓op_indexAddr, ↓op_index, ↓op_extract, ↓op_lookup, ↓op_mapUpdate, ↓op_makeMap, ↓op_range, ↓op_next, ↓op_call, ↓op_builtin, ↓g_tt, ↓g_ff, ↓g_tf, ↓g_ft, ↓g_tnt, ↓g_tnf, ↓g_fnt, ↓g_fnf, ↓mkT_getD, hp, hsh]
    exact ⟨hair, VEnt.refl _⟩
  · obtain ⟨hn9, hb9⟩ := short_use hsh
    have hown : IsAir n get ∧ n ≤ 1000 ∧ ∀ i, i < n → inN get i 4 ≤ 1000 := ⟨hair, by omega, fun i hi => by have := hb9 i hi; omega⟩
    have hce : firstL [airE n get, pathE a b c d e f] = checkE n get a b c d e f := rfl
    by_cases h2 : checkE n get a b c d e f = 0
    · have d2 : decide (checkE n get a b c d e f = 0) = true := decide_eq_true h2
      have o2 := orE_noA h2
      obtain ⟨hae, hpath⟩ := checkE_zero.1 h2
      have hok := airE_ok hae
      have hb8 := hok.bands
      simp only [Proofs.Tryz.f5]
      rw [enter_mkT (Nat.le_of_ble_eq_true rfl)]
      simp (maxSteps := 4000000) only [go_sem, ↓op_move, ↓op_assign, ↓op_pick, ↓op_alloc, ↓op_box, ↓op_build, ↓op_buildSlice, ↓op_load, ↓op_store, ↓op_nilCheck, ↓op_bin, ↓op_un, ↓op_convert, ↓op_makeFunc, ↓op_makeSlice, ↓op_slice, ↓op_fieldAddr, ↓op_field, ↓op_indexAddr, ↓op_index, ↓op_extract, ↓op_lookup, ↓op_mapUpdate, ↓op_makeMap, ↓op_range, ↓op_next, ↓op_call, ↓op_builtin, ↓g_tt, ↓g_ff, ↓g_tf, ↓g_ft, ↓g_tnt, ↓g_tnf, ↓g_fnt, ↓g_fnf, ↓mkT_getD, hp, hsh, hce, o2, d2, dec_self]
      exact ⟨hair, hown, hair, hown, hair, hair, ⟨hair, hok, hpath⟩, ⟨hair, hok, hpath⟩, by rw [h2]; exact ivs_fn (by omega), by rw [h2]; exact ivs_fn (by omega), VEnt.refl _⟩
    · have d2 : decide (checkE n get a b c d e f = 0) = false := decide_eq_false h2
      have o2 := orE_errA h2
      simp only [Proofs.Tryz.f5]
      rw [enter_mkT (Nat.le_of_ble_eq_true rfl)]
      simp (maxSteps := 4000000) only [go_sem, ↓op_move, ↓op_assign, ↓op_pick, ↓op_alloc, ↓op_box, ↓op_build, ↓op_buildSlice, ↓op_load, ↓op_store, ↓op_nilCheck, ↓op_bin, ↓op_un, ↓op_convert, ↓op_makeFunc, ↓op_makeSlice, ↓op_slice, ↓op_fieldAddr, ↓op_field, ↓op_indexAddr, ↓op_index, ↓op_extract, ↓op_lookup, ↓op_mapUpdate, ↓op_makeMap, ↓op_range, ↓op_next, ↓op_call, ↓op_builtin, ↓g_tt, ↓g_ff, ↓g_tf, ↓g_ft, ↓g_tnt, ↓g_tnf, ↓g_fnt, ↓g_fnf, ↓mkT_getD, hp, hsh, hce, o2, d2, dec_self]
      exact ⟨hair, hown, hair, hown, hair, hair, ivs_err h2 .nils, ivs_err h2 .nils, VEnt.refl _⟩
end Go.Fly.Tryz
