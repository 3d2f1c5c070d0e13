/- The reference's winds and rays, and the law on them. -/
import Derived.Test.YtmlknpghkclffaaGreatDoorSYAHA
import Derived.Test.YtmlknpghkclffaaGreatDoorBA
set_option linter.unusedSimpArgs false
set_option linter.unusedVariables false
set_option maxRecDepth 100000
set_option maxHeartbeats 8000000
namespace Go.Fly.Tryz
open Go

theorem rLix_ok : Holds Proofs.Tryz.prog G0 52 lixC := by
  refine Holds.of_exC D52 Proofs.Tryz.func52 rfl foll (by kernel_rfl) (tab [(81, whenC)]) (tab_ok ⟨qWhen_ok, trivial⟩) G0_ok fun k0 rl args hpu hpre => ?_
  unfold lixC at hpre ⊢
  split at hpre
  rotate_left
  · exact hpre.elim
  rename_i n sz get i
  simp only [Proofs.Tryz.f52]
  rw [enter_mkT (Nat.le_of_ble_eq_true rfl)]
  simp (maxSteps := 4000000) only [go_sem, ↓op_move, ↓op_assign, ↓op_pick, ↓op_alloc, ↓op_box, ↓op_build, ↓op_buildSlice, ↓op_load, ↓op_store, ↓op_nilCheck, ↓op_bin, ↓op_un, ↓op_convert, ↓op_makeFunc, ↓op_makeSlice, ↓op_slice, ↓op_fieldAddr, ↓op_field, ↓op_indexAddr, ↓op_index, ↓op_extract, ↓op_lookup, ↓op_mapUpdate, ↓op_makeMap, ↓op_range, ↓op_next, ↓op_call, ↓op_builtin, ↓g_tt, ↓g_ff, ↓g_tf, ↓g_ft, ↓g_tnt, ↓g_tnf, ↓g_fnt, ↓g_fnf, ↓mkT_getD, hpre]
  refine ⟨fun h => VEnt.of_eq ?_, fun h => VEnt.of_eq ?_⟩ <;> simp [lixE, h]

theorem rSign_ok : Holds Proofs.Tryz.prog G0 123 signC := by
  refine Holds.of_exC D123 Proofs.Tryz.func123 rfl foll (by kernel_rfl) (tab []) (tab_ok trivial) G0_ok fun k0 rl args hpu hpre => ?_
  unfold signC at hpre ⊢
  split at hpre
  rotate_left
  · exact hpre.elim
  rename_i n
  simp only [Proofs.Tryz.f123]
  rw [enter_mkT (Nat.le_of_ble_eq_true rfl)]
  simp (maxSteps := 4000000) only [go_sem, ↓op_move, ↓op_assign, ↓op_pick, ↓op_alloc, ↓op_box, ↓op_build, ↓op_buildSlice, ↓op_load, ↓op_store, ↓op_nilCheck, ↓op_bin, ↓op_un, ↓op_convert, ↓op_makeFunc, ↓op_makeSlice, ↓op_slice, ↓op_fieldAddr, ↓op_field, ↓op_indexAddr, ↓op_index, ↓op_extract, ↓op_lookup, ↓op_mapUpdate, ↓op_makeMap, ↓op_range, ↓op_next, ↓op_call, ↓op_builtin, ↓g_tt, ↓g_ff, ↓g_tf, ↓g_ft, ↓g_tnt, ↓g_tnf, ↓g_fnt, ↓g_fnf, ↓mkT_getD]
  refine ⟨fun h => VEnt.of_eq ?_, fun h => ⟨fun h2 => VEnt.of_eq ?_, fun h2 => VEnt.of_eq ?_⟩⟩ <;> simp [sgnE, h] <;> omega

theorem rCmp_ok : Holds Proofs.Tryz.prog G0 53 cmpRC := by
  refine Holds.of_exC D53 Proofs.Tryz.func53 rfl foll (by kernel_rfl) (tab [(123, signC), (iceKey 7, iceC)]) (tab_ok ⟨rSign_ok, ice_holds, trivial⟩) G0_ok fun k0 rl args hpu hpre => ?_
  unfold cmpRC at hpre ⊢
  split at hpre
  rotate_left
  · exact hpre.elim
  rename_i n sz get i j x y
  obtain ⟨rfl, hair, hae, ⟨hi0, hi1⟩, ⟨hj0, hj1⟩, hx, hy, hxy⟩ := hpre
  obtain ⟨i, rfl⟩ := Int.eq_ofNat_of_zero_le hi0
  obtain ⟨j, rfl⟩ := Int.eq_ofNat_of_zero_le hj0
  have hp := hair.pu
  obtain ⟨hgi, hivi⟩ := hair.2 i (by omega)
  obtain ⟨hgj, hivj⟩ := hair.2 j (by omega)
  have hpi := hivi.pu
  have hpj := hivj.pu
  have wi := airE_wind hae (show i < n by omega)
  have wj := airE_wind hae (show j < n by omega)
  have fb := fast_bd (s := cell get i 1 - cell get j 1) (u := cell get i 2 - cell get j 2) (v := cell get i 3 - cell get j 3) (ax := x) (ay := y) ⟨by omega, by omega⟩ ⟨by omega, by omega⟩ ⟨by omega, by omega⟩ hx hy
  have hD : 0 < x * x + y * y := by
    have h1 : x ≠ 0 → 0 < x * x := sq_zero
    have h2 : y ≠ 0 → 0 < y * y := sq_zero
    have h3 := sq_nn x
    have h4 := sq_nn y
    by_cases q : x = 0
    · have := h2 fun e => hxy ⟨q, e⟩
      omega
    · have := h1 q
      omega
  have hc := cmpR_eq (s := cell get i 1 - cell get j 1) (u := cell get i 2 - cell get j 2) (v := cell get i 3 - cell get j 3) hD
  unfold cmpV
  rw [Int.toNat_natCast, Int.toNat_natCast, ← hc]
  unfold cmpR
  have s1 := sgn_bd (cell get i 1 - cell get j 1)
  have s2 := sgn_bd ((cell get i 2 - cell get j 2) * x + (cell get i 3 - cell get j 3) * y)
  have s3 := sgn_bd ((cell get i 1 - cell get j 1) * (cell get i 1 - cell get j 1) * (x * x + y * y) - ((cell get i 2 - cell get j 2) * x + (cell get i 3 - cell get j 3) * y) * ((cell get i 2 - cell get j 2) * x + (cell get i 3 - cell get j 3) * y))
  have s4 := mul_abs_le (A := 1) (B := 1) s1.1 s1.2 s2.1 s2.2
  have s5 := mul_abs_le (A := 1) (B := 1) s1.1 s1.2 s3.1 s3.2
  by_cases hc0 : 0 ≤ sgnE (cell get i 1 - cell get j 1) * sgnE ((cell get i 2 - cell get j 2) * x + (cell get i 3 - cell get j 3) * y)
  · have hd := decide_eq_true hc0
    rw [if_pos hc0]
    simp only [Proofs.Tryz.f53]
    rw [enter_mkT (Nat.le_of_ble_eq_true rfl)]
    simp (maxSteps := 4000000) only [go_sem, ↓op_move, ↓op_assign, ↓op_pick, ↓op_alloc, ↓op_box, ↓op_build, ↓op_buildSlice, ↓op_load, ↓op_store, ↓op_nilCheck, ↓op_bin, ↓op_un, ↓op_convert, ↓op_makeFunc, ↓op_makeSlice, ↓op_slice, ↓op_fieldAddr, ↓op_field, ↓op_indexAddr, ↓op_index, ↓op_extract, ↓op_lookup, ↓op_mapUpdate, ↓op_makeMap, ↓op_range, ↓op_next, ↓op_call, ↓op_builtin, ↓g_tt, ↓g_ff, ↓g_tf, ↓g_ft, ↓g_tnt, ↓g_tnf, ↓g_fnt, ↓g_fnf, ↓mkT_getD, hp, hgi, hgj, hpi, hpj, Int.toNat_natCast, hd]
    exact ⟨⟨by omega, by omega⟩, ⟨by omega, by omega⟩, inK_of (by omega) (by omega), ⟨by omega, by omega⟩, ⟨by omega, by omega⟩, inK_of (by omega) (by omega), inK_of (by omega) (by omega), ⟨by omega, by omega⟩, ⟨by omega, by omega⟩, inK_of (by omega) (by omega), inK_of (by omega) (by omega), inK_of (by omega) (by omega), inK_of (by omega) (by omega), inK_of (by omega) (by omega), VEnt.refl _⟩
  · have hd := decide_eq_false hc0
    rw [if_neg hc0]
    simp only [Proofs.Tryz.f53]
    rw [enter_mkT (Nat.le_of_ble_eq_true rfl)]
    simp (maxSteps := 4000000) only [go_sem, ↓op_move, ↓op_assign, ↓op_pick, ↓op_alloc, ↓op_box, ↓op_build, ↓op_buildSlice, ↓op_load, ↓op_store, ↓op_nilCheck, ↓op_bin, ↓op_un, ↓op_convert, ↓op_makeFunc, ↓op_makeSlice, ↓op_slice, ↓op_fieldAddr, ↓op_field, ↓op_indexAddr, ↓op_index, ↓op_extract, ↓op_lookup, ↓op_mapUpdate, ↓op_makeMap, ↓op_range, ↓op_next, ↓op_call, ↓op_builtin, ↓g_tt, ↓g_ff, ↓g_tf, ↓g_ft, ↓g_tnt, ↓g_tnf, ↓g_fnt, ↓g_fnf, ↓mkT_getD, hp, hgi, hgj, hpi, hpj, Int.toNat_natCast, hd]
    exact ⟨⟨by omega, by omega⟩, ⟨by omega, by omega⟩, inK_of (by omega) (by omega), ⟨by omega, by omega⟩, ⟨by omega, by omega⟩, inK_of (by omega) (by omega), inK_of (by omega) (by omega), ⟨by omega, by omega⟩, ⟨by omega, by omega⟩, inK_of (by omega) (by omega), inK_of (by omega) (by omega), inK_of (by omega) (by omega), inK_of (by omega) (by omega), inK_of (by omega) (by omega), inK_of (by omega) (by omega), inK_of (by omega) (by omega), inK_of (by omega) (by omega), inK_of (by omega) (by omega), inK_of (by omega) (by omega), inK_of (by omega) (by omega), inK_of (by omega) (by omega), VEnt.refl _⟩

theorem rBent_ok : Holds Proofs.Tryz.prog G0 60 bentRC := by
  refine Holds.of_exC D60 Proofs.Tryz.func60 rfl foll (by kernel_rfl) (tab [(24, latRC), (53, cmpRC), (127, dirPC), (iceKey 3, iceC)]) (tab_ok ⟨rLat_ok, rCmp_ok, rDirn_ok, ice_holds, trivial⟩) G0_ok fun k0 rl args hpu hpre => ?_
  unfold bentRC at hpre ⊢
  split at hpre
  rotate_left
  · exact hpre.elim
  rename_i n sz get a b c d e f
  obtain ⟨rfl, hair, hae, hpath⟩ := hpre
  have hp := hair.pu
  have hok := airE_ok hae
  have hn := hok.cnt
  obtain ⟨⟨p1, p2, p3⟩, ⟨p4, p5, p6⟩, p7⟩ := id hpath
  obtain ⟨i, hi, ei⟩ := atE_ok hok (h := max c f) (by omega)
  obtain ⟨j, hj, ej⟩ := atE_ok hok (h := min c f) (by omega)
  have hb : bentE n get a b c d e f = if d - a = 0 ∧ e - b = 0 then 0 else cmpV get i j (d - a) (e - b) := by
    unfold bentE cmpV
    rw [ei, ej, Int.toNat_natCast, Int.toNat_natCast]
    by_cases h0 : d - a = 0 ∧ e - b = 0
    · rw [if_pos (.inr h0), if_pos h0]
    · rw [if_neg h0]
      by_cases hij : i = j
      · subst hij
        rw [if_pos (.inl rfl)]
        simp only [Int.sub_self]
        unfold fastE leftE rightE cmpE
        simp
      · rw [if_neg]
        rintro (q | q)
        · rcases Nat.lt_or_gt_of_ne hij with r | r
          · have := bot_lt hok r (Nat.le_of_lt hj); omega
          · have := bot_lt hok r (Nat.le_of_lt hi); omega
        · exact h0 q
  rw [hb]
  by_cases hx : d - a = 0
  · have dx : decide (d - a = 0) = true := decide_eq_true hx
    by_cases hy : e - b = 0
    · have dy : decide (e - b = 0) = true := decide_eq_true hy
      simp only [Proofs.Tryz.f60]
      rw [enter_mkT (Nat.le_of_ble_eq_true rfl)]
      simp (maxSteps := 4000000) only [go_sem, ↓op_move, ↓op_assign, ↓op_pick, ↓op_alloc, ↓op_box, ↓op_build, ↓op_buildSlice, ↓op_load, ↓op_store, ↓op_nilCheck, ↓op_bin, ↓op_un, ↓op_convert, ↓op_makeFunc, ↓op_makeSlice, ↓op_slice, ↓op_fieldAddr, ↓op_field, ↓op_indexAddr, ↓op_index, ↓op_extract, ↓op_lookup, ↓op_mapUpdate, ↓op_makeMap, ↓op_range, ↓op_next, ↓op_call, ↓op_builtin, ↓g_tt, ↓g_ff, ↓g_tf, ↓g_ft, ↓g_tnt, ↓g_tnf, ↓g_fnt, ↓g_fnf, ↓mkT_getD, hp, dx, dy]
      exact ⟨⟨by omega, by omega, by omega, by omega⟩, VEnt.of_eq (by rw [if_pos ⟨hx, hy⟩])⟩
    · have dy : decide (e - b = 0) = false := decide_eq_false hy
      simp only [Proofs.Tryz.f60]
      rw [enter_mkT (Nat.le_of_ble_eq_true rfl)]
      simp (maxSteps := 4000000) only [go_sem, ↓op_move, ↓op_assign, ↓op_pick, ↓op_alloc, ↓op_box, ↓op_build, ↓op_buildSlice, ↓op_load, ↓op_store, ↓op_nilCheck, ↓op_bin, ↓op_un, ↓op_convert, ↓op_makeFunc, ↓op_makeSlice, ↓op_slice, ↓op_fieldAddr, ↓op_field, ↓op_indexAddr, ↓op_index, ↓op_extract, ↓op_lookup, ↓op_mapUpdate, ↓op_makeMap, ↓op_range, ↓op_next, ↓op_call, ↓op_builtin, ↓g_tt, ↓g_ff, ↓g_tf, ↓g_ft, ↓g_tnt, ↓g_tnf, ↓g_fnt, ↓g_fnf, ↓mkT_getD, hp, dx, dy, ei, ej, Int.toNat_natCast]
      exact ⟨⟨by omega, by omega, by omega, by omega⟩, ⟨hair, hok, by omega, by omega⟩, ⟨hair, hok, by omega, by omega⟩, ⟨hair, hae, ⟨by omega, by omega⟩, ⟨by omega, by omega⟩, ⟨by omega, by omega⟩, ⟨by omega, by omega⟩, fun q => hy q.2⟩, VEnt.of_eq (by rw [if_neg fun q => hy q.2])⟩
  · have dx : decide (d - a = 0) = false := decide_eq_false hx
    simp only [Proofs.Tryz.f60]
    rw [enter_mkT (Nat.le_of_ble_eq_true rfl)]
    simp (maxSteps := 4000000) only [go_sem, ↓op_move, ↓op_assign, ↓op_pick, ↓op_alloc, ↓op_box, ↓op_build, ↓op_buildSlice, ↓op_load, ↓op_store, ↓op_nilCheck, ↓op_bin, ↓op_un, ↓op_convert, ↓op_makeFunc, ↓op_makeSlice, ↓op_slice, ↓op_fieldAddr, ↓op_field, ↓op_indexAddr, ↓op_index, ↓op_extract, ↓op_lookup, ↓op_mapUpdate, ↓op_makeMap, ↓op_range, ↓op_next, ↓op_call, ↓op_builtin, ↓g_tt, ↓g_ff, ↓g_tf, ↓g_ft, ↓g_tnt, ↓g_tnf, ↓g_fnt, ↓g_fnf, ↓mkT_getD, hp, dx, ei, ej, Int.toNat_natCast, Bool.false_and]
    exact ⟨⟨by omega, by omega, by omega, by omega⟩, ⟨hair, hok, by omega, by omega⟩, ⟨hair, hok, by omega, by omega⟩, ⟨hair, hae, ⟨by omega, by omega⟩, ⟨by omega, by omega⟩, ⟨by omega, by omega⟩, ⟨by omega, by omega⟩, fun q => hx q.1⟩, VEnt.of_eq (by rw [if_neg fun q => hx q.1])⟩

theorem rShad_ok : Holds Proofs.Tryz.prog G0 61 shadRC := by
  refine Holds.of_exC D61 Proofs.Tryz.func61 rfl foll (by kernel_rfl) (tab [(60, bentRC), (102, sqRC), (iceKey 3, iceC)]) (tab_ok ⟨rBent_ok, rSqr_ok, ice_holds, trivial⟩) G0_ok fun k0 rl args hpu hpre => ?_
  unfold shadRC at hpre ⊢
  split at hpre
  rotate_left
  · exact hpre.elim
  rename_i n sz get a b c d e f
  obtain ⟨rfl, hair, hae, hpath⟩ := hpre
  have hp := hair.pu
  have hok := airE_ok hae
  obtain ⟨⟨p1, p2, p3⟩, ⟨p4, p5, p6⟩, p7⟩ := id hpath
  have q3 := sqBd (show -400000 ≤ 20 * (c + f) by omega) (show 20 * (c + f) ≤ 400000 by omega)
  have h0 : (d - a) * (d - a) + (e - b) * (e - b) + 0 * 0 = (d - a) * (d - a) + (e - b) * (e - b) := by omega
  have h00 : (d - a) * (d - a) + (e - b) * (e - b) + 0 = (d - a) * (d - a) + (e - b) * (e - b) := by omega
  unfold shadE
  cases hb : decide (bentE n get a b c d e f < 0)
  · simp only [Proofs.Tryz.f61]
    rw [enter_mkT (Nat.le_of_ble_eq_true rfl)]
    simp (maxSteps := 4000000) only [go_sem, ↓op_move, ↓op_assign, ↓op_pick, ↓op_alloc, ↓op_box, ↓op_build, ↓op_buildSlice, ↓op_load, ↓op_store, ↓op_nilCheck, ↓op_bin, ↓op_un, ↓op_convert, ↓op_makeFunc, ↓op_makeSlice, ↓op_slice, ↓op_fieldAddr, ↓op_field, ↓op_indexAddr, ↓op_index, ↓op_extract, ↓op_lookup, ↓op_mapUpdate, ↓op_makeMap, ↓op_range, ↓op_next, ↓op_call, ↓op_builtin, ↓g_tt, ↓g_ff, ↓g_tf, ↓g_ft, ↓g_tnt, ↓g_tnf, ↓g_fnt, ↓g_fnf, ↓mkT_getD, hp, hb]
    exact ⟨inK_of (by omega) (by omega), inK_of (by omega) (by omega), ⟨hair, hae, hpath⟩, VEnt.of_eq (by rw [Bool.false_and])⟩
  · simp only [Proofs.Tryz.f61]
    rw [enter_mkT (Nat.le_of_ble_eq_true rfl)]
    simp (maxSteps := 4000000) only [go_sem, ↓op_move, ↓op_assign, ↓op_pick, ↓op_alloc, ↓op_box, ↓op_build, ↓op_buildSlice, ↓op_load, ↓op_store, ↓op_nilCheck, ↓op_bin, ↓op_un, ↓op_convert, ↓op_makeFunc, ↓op_makeSlice, ↓op_slice, ↓op_fieldAddr, ↓op_field, ↓op_indexAddr, ↓op_index, ↓op_extract, ↓op_lookup, ↓op_mapUpdate, ↓op_makeMap, ↓op_range, ↓op_next, ↓op_call, ↓op_builtin, ↓g_tt, ↓g_ff, ↓g_tf, ↓g_ft, ↓g_tnt, ↓g_tnf, ↓g_fnt, ↓g_fnf, ↓mkT_getD, hp, hb, h0, h00]
    exact ⟨inK_of (by omega) (by omega), inK_of (by omega) (by omega), ⟨hair, hae, hpath⟩, hpath, inK_of (by omega) (by omega), VEnt.refl _⟩

theorem qDiv_ok : Holds Proofs.Tryz.prog G0 130 divC := by
  refine Holds.of_exC D130 Proofs.Tryz.func130 rfl foll (by kernel_rfl) (tab []) (tab_ok trivial) G0_ok fun k0 rl args hpu hpre => ?_
  unfold divC at hpre ⊢
  split at hpre
  rotate_left
  · exact hpre.elim
  rename_i a b
  obtain ⟨h1, h2, h3, h4⟩ := hpre
  obtain ⟨a, rfl⟩ := Int.eq_ofNat_of_zero_le h1
  obtain ⟨b, rfl⟩ := Int.eq_ofNat_of_zero_le h3
  have ma : max (a : Int) (0 - a) = a := by omega
  have mb : max (b : Int) (0 - b) = b := by omega
  simp only [Proofs.Tryz.f130]
  rw [enter_mkT (Nat.le_of_ble_eq_true rfl)]
  simp (maxSteps := 4000000) only [go_sem, ↓op_move, ↓op_assign, ↓op_pick, ↓op_alloc, ↓op_box, ↓op_build, ↓op_buildSlice, ↓op_load, ↓op_store, ↓op_nilCheck, ↓op_bin, ↓op_un, ↓op_convert, ↓op_makeFunc, ↓op_makeSlice, ↓op_slice, ↓op_fieldAddr, ↓op_field, ↓op_indexAddr, ↓op_index, ↓op_extract, ↓op_lookup, ↓op_mapUpdate, ↓op_makeMap, ↓op_range, ↓op_next, ↓op_call, ↓op_builtin, ↓g_tt, ↓g_ff, ↓g_tf, ↓g_ft, ↓g_tnt, ↓g_tnf, ↓g_fnt, ↓g_fnf, ↓mkT_getD, Int.toNat_natCast, ma, mb]
  refine ⟨inK_of (by omega) (by omega), inK_of (by omega) (by omega), ?_⟩
  refine RestT.loopF (β := Nat × Nat) [(0, 1), (13, 18)] (fun s => [(0, .int .i64 s.1), (1, .int .i64 s.2)]) (fun _ => fun _ => none) (fun s => Nat.gcd s.1 s.2 = Nat.gcd a b ∧ s.1 ≤ 1000000000000 ∧ s.2 ≤ 1000000000000) (fun s => s.2) (a, b) ⟨rfl, by omega, by omega⟩ ?_ HpLe.none ?_
  · simp (maxSteps := 4000000) only [go_sem, ↓op_move, ↓op_assign, ↓op_pick, ↓op_alloc, ↓op_box, ↓op_build, ↓op_buildSlice, ↓op_load, ↓op_store, ↓op_nilCheck, ↓op_bin, ↓op_un, ↓op_convert, ↓op_makeFunc, ↓op_makeSlice, ↓op_slice, ↓op_fieldAddr, ↓op_field, ↓op_indexAddr, ↓op_index, ↓op_extract, ↓op_lookup, ↓op_mapUpdate, ↓op_makeMap, ↓op_range, ↓op_next, ↓op_call, ↓op_builtin, ↓g_tt, ↓g_ff, ↓g_tf, ↓g_ft, ↓g_tnt, ↓g_tnf, ↓g_fnt, ↓g_fnf, ↓mkT_getD]
    try exact rfl
  · intro ck s hck hI
    obtain ⟨x, y⟩ := s
    obtain ⟨hg, hx, hy⟩ := hI
    have hg : Nat.gcd x y = Nat.gcd a b := hg
    have hx : x ≤ 1000000000000 := hx
    have hy : y ≤ 1000000000000 := hy
    generalize hq0 : exC _ _ _ _ _ = gg
    by_cases hy0 : y = 0
    · have hd : decide ((y : Int) = 0) = true := by simp; omega
      rw [← hq0]
      clear hq0
      simp (maxSteps := 4000000) only [go_sem, ↓op_move, ↓op_assign, ↓op_pick, ↓op_alloc, ↓op_box, ↓op_build, ↓op_buildSlice, ↓op_load, ↓op_store, ↓op_nilCheck, ↓op_bin, ↓op_un, ↓op_convert, ↓op_makeFunc, ↓op_makeSlice, ↓op_slice, ↓op_fieldAddr, ↓op_field, ↓op_indexAddr, ↓op_index, ↓op_extract, ↓op_lookup, ↓op_mapUpdate, ↓op_makeMap, ↓op_range, ↓op_next, ↓op_call, ↓op_builtin, ↓g_tt, ↓g_ff, ↓g_tf, ↓g_ft, ↓g_tnt, ↓g_tnf, ↓g_fnt, ↓g_fnf, ↓mkT_getD, hd]
      subst hy0
      rw [← hg, Nat.gcd_zero_right]
      exact VEnt.refl _
    · have hd : decide ((y : Int) = 0) = false := by simp; omega
      have hm : ((x : Int).tmod (y : Int)) = ((x % y : Nat) : Int) := by
        rw [Int.tmod_eq_emod_of_nonneg (by omega)]; exact (Int.natCast_emod x y).symm
      rw [← hq0]
      clear hq0
      simp (maxSteps := 4000000) only [go_sem, ↓op_move, ↓op_assign, ↓op_pick, ↓op_alloc, ↓op_box, ↓op_build, ↓op_buildSlice, ↓op_load, ↓op_store, ↓op_nilCheck, ↓op_bin, ↓op_un, ↓op_convert, ↓op_makeFunc, ↓op_makeSlice, ↓op_slice, ↓op_fieldAddr, ↓op_field, ↓op_indexAddr, ↓op_index, ↓op_extract, ↓op_lookup, ↓op_mapUpdate, ↓op_makeMap, ↓op_range, ↓op_next, ↓op_call, ↓op_builtin, ↓g_tt, ↓g_ff, ↓g_tf, ↓g_ft, ↓g_tnt, ↓g_tnf, ↓g_fnt, ↓g_fnf, ↓mkT_getD, hd, hm]
      have hlt := Nat.mod_lt x (Nat.pos_of_ne_zero hy0)
      refine ⟨by omega, by omega, (y, x % y), ⟨by rw [← hg]; show Nat.gcd y (x % y) = Nat.gcd x y; rw [Nat.gcd_comm x y, Nat.gcd_rec y x, Nat.gcd_comm], hy, by show x % y ≤ _; omega⟩, hlt, ⟨rfl, rfl⟩, ?_⟩
      first | exact HpLe.refl _ | exact HpLe.none | trace_state

theorem qLow_ok : Holds Proofs.Tryz.prog G0 69 lowC := by
  refine Holds.of_exC D69 Proofs.Tryz.func69 rfl foll (by kernel_rfl) (tab [(130, divC)]) (tab_ok ⟨qDiv_ok, trivial⟩) G0_ok fun k0 rl args hpu hpre => ?_
  unfold lowC at hpre ⊢
  split at hpre
  rotate_left
  · exact hpre.elim
  rename_i a b
  obtain ⟨⟨h1, h2⟩, h3, h4⟩ := hpre
  have hd : decide (b < 0) = false := decide_eq_false (by omega)
  have hg : 0 < Nat.gcd a.toNat b.toNat := Nat.gcd_pos_of_pos_right _ (by omega)
  have t1 := tdiv_in (x := a) (m := 1000000000000) (Nat.gcd a.toNat b.toNat) (by omega) (by omega)
  have t2 := tdiv_in (x := b) (m := 1000000000000) (Nat.gcd a.toNat b.toNat) (by omega) (by omega)
  simp only [Proofs.Tryz.f69]
  rw [enter_mkT (Nat.le_of_ble_eq_true rfl)]
  simp (maxSteps := 4000000) only [go_sem, ↓op_move, ↓op_assign, ↓op_pick, ↓op_alloc, ↓op_box, ↓op_build, ↓op_buildSlice, ↓op_load, ↓op_store, ↓op_nilCheck, ↓op_bin, ↓op_un, ↓op_convert, ↓op_makeFunc, ↓op_makeSlice, ↓op_slice, ↓op_fieldAddr, ↓op_field, ↓op_indexAddr, ↓op_index, ↓op_extract, ↓op_lookup, ↓op_mapUpdate, ↓op_makeMap, ↓op_range, ↓op_next, ↓op_call, ↓op_builtin, ↓g_tt, ↓g_ff, ↓g_tf, ↓g_ft, ↓g_tnt, ↓g_tnf, ↓g_fnt, ↓g_fnf, ↓mkT_getD, hd]
  exact ⟨⟨by omega, by omega, by omega, by omega⟩, ⟨by omega, inK_of (by omega) (by omega)⟩, ⟨by omega, inK_of (by omega) (by omega)⟩, VEnt.refl _⟩

theorem rSlow_ok : Holds Proofs.Tryz.prog G0 59 slowC := by
  refine Holds.of_exC D59 Proofs.Tryz.func59 rfl foll (by kernel_rfl) (tab [(22, firstC), (23, withinC), (69, lowC), (81, whenC), (iceKey 1, iceC)]) (tab_ok ⟨qFirst_ok, qRange_ok, qLow_ok, qWhen_ok, ice_holds, trivial⟩) G0_ok fun k0 rl args hpu hpre => ?_
  unfold slowC at hpre ⊢
  split at hpre
  rotate_left
  · exact hpre.elim
  rename_i num den
  by_cases h0 : firstL [rng num 1 100000, rng den 1 100000] = 0
  · have d0 := decide_eq_true h0
    have hz := firstL_zero.1 h0
    have hn := rng_zero.1 (hz (rng num 1 100000) (by simp))
    have hd := rng_zero.1 (hz (rng den 1 100000) (by simp))
    by_cases hg : Nat.gcd num.toNat den.toNat = 1
    · have e1 : num.tdiv ((Nat.gcd num.toNat den.toNat : Nat) : Int) = num := by rw [hg]; exact Int.tdiv_one _
      have e2 : den.tdiv ((Nat.gcd num.toNat den.toNat : Nat) : Int) = den := by rw [hg]; exact Int.tdiv_one _
      have hs : slowE num den = 0 := by unfold slowE; rw [if_neg (by simp [h0]), if_neg (by simp [hg])]
      simp only [Proofs.Tryz.f59]
      rw [enter_mkT (Nat.le_of_ble_eq_true rfl)]
      simp (maxSteps := 4000000) only [go_sem, ↓op_move, ↓op_assign, ↓op_pick, ↓op_alloc, ↓op_box, ↓op_build, ↓op_buildSlice, ↓op_load, ↓op_store, ↓op_nilCheck, ↓op_bin, ↓op_un, ↓op_convert, ↓op_makeFunc, ↓op_makeSlice, ↓op_slice, ↓op_fieldAddr, ↓op_field, ↓op_indexAddr, ↓op_index, ↓op_extract, ↓op_lookup, ↓op_mapUpdate, ↓op_makeMap, ↓op_range, ↓op_next, ↓op_call, ↓op_builtin, ↓g_tt, ↓g_ff, ↓g_tf, ↓g_ft, ↓g_tnt, ↓g_tnf, ↓g_fnt, ↓g_fnf, ↓mkT_getD, d0, e1, e2, dec_self, hs]
      exact ⟨⟨⟨by omega, by omega⟩, by omega, by omega⟩, VEnt.of_eq (by simp [err])⟩
    · have hg2 : 2 ≤ Nat.gcd num.toNat den.toNat := by
        have := Nat.gcd_pos_of_pos_left den.toNat (show 0 < num.toNat by omega)
        omega
      have e1 : decide (num.tdiv ((Nat.gcd num.toNat den.toNat : Nat) : Int) = num) = false := decide_eq_false fun q => by
        rw [Int.tdiv_eq_ediv_of_nonneg (by omega)] at q
        have := Int.ediv_lt_of_lt_mul (a := num) (b := num) (c := ((Nat.gcd num.toNat den.toNat : Nat) : Int)) (by omega) (by
          have := Int.mul_le_mul_of_nonneg_left (show (2 : Int) ≤ ((Nat.gcd num.toNat den.toNat : Nat) : Int) by omega) (show 0 ≤ num by omega)
          omega)
        omega
      have hs : slowE num den = 1 := by unfold slowE; rw [if_neg (by simp [h0]), if_pos hg]
      simp only [Proofs.Tryz.f59]
      rw [enter_mkT (Nat.le_of_ble_eq_true rfl)]
      simp (maxSteps := 4000000) only [go_sem, ↓op_move, ↓op_assign, ↓op_pick, ↓op_alloc, ↓op_box, ↓op_build, ↓op_buildSlice, ↓op_load, ↓op_store, ↓op_nilCheck, ↓op_bin, ↓op_un, ↓op_convert, ↓op_makeFunc, ↓op_makeSlice, ↓op_slice, ↓op_fieldAddr, ↓op_field, ↓op_indexAddr, ↓op_index, ↓op_extract, ↓op_lookup, ↓op_mapUpdate, ↓op_makeMap, ↓op_range, ↓op_next, ↓op_call, ↓op_builtin, ↓g_tt, ↓g_ff, ↓g_tf, ↓g_ft, ↓g_tnt, ↓g_tnf, ↓g_fnt, ↓g_fnf, ↓mkT_getD, d0, e1, hs, Bool.false_and, Bool.not_false]
      exact ⟨⟨⟨by omega, by omega⟩, by omega, by omega⟩, VEnt.of_eq (by simp [err])⟩
  · have d0 := decide_eq_false h0
    have hs : slowE num den = firstL [rng num 1 100000, rng den 1 100000] := by unfold slowE; rw [if_pos h0]
    simp only [Proofs.Tryz.f59]
    rw [enter_mkT (Nat.le_of_ble_eq_true rfl)]
    simp (maxSteps := 4000000) only [go_sem, ↓op_move, ↓op_assign, ↓op_pick, ↓op_alloc, ↓op_box, ↓op_build, ↓op_buildSlice, ↓op_load, ↓op_store, ↓op_nilCheck, ↓op_bin, ↓op_un, ↓op_convert, ↓op_makeFunc, ↓op_makeSlice, ↓op_slice, ↓op_fieldAddr, ↓op_field, ↓op_indexAddr, ↓op_index, ↓op_extract, ↓op_lookup, ↓op_mapUpdate, ↓op_makeMap, ↓op_range, ↓op_next, ↓op_call, ↓op_builtin, ↓g_tt, ↓g_ff, ↓g_tf, ↓g_ft, ↓g_tnt, ↓g_tnf, ↓g_fnt, ↓g_fnf, ↓mkT_getD, d0, hs]
    exact VEnt.refl _

theorem rTurn_ok : Holds Proofs.Tryz.prog G0 62 turnRC := by
  refine Holds.of_exC D62 Proofs.Tryz.func62 rfl foll (by kernel_rfl) (tab [(iceKey 5, iceC)]) (tab_ok ⟨ice_holds, trivial⟩) G0_ok fun k0 rl args hpu hpre => ?_
  unfold turnRC at hpre ⊢
  split at hpre
  rotate_left
  · exact hpre.elim
  rename_i n sz get i num den
  obtain ⟨rfl, hair, hae, ⟨hi0, hi1⟩, hnum, hden⟩ := hpre
  obtain ⟨i, rfl⟩ := Int.eq_ofNat_of_zero_le hi0
  have hp := hair.pu
  have hok := airE_ok hae
  have hcnt := hok.cnt
  simp only [Proofs.Tryz.f62]
  rw [enter_mkT (Nat.le_of_ble_eq_true rfl)]
  simp (maxSteps := 4000000) only [go_sem, ↓op_move, ↓op_assign, ↓op_pick, ↓op_alloc, ↓op_box, ↓op_build, ↓op_buildSlice, ↓op_load, ↓op_store, ↓op_nilCheck, ↓op_bin, ↓op_un, ↓op_convert, ↓op_makeFunc, ↓op_makeSlice, ↓op_slice, ↓op_fieldAddr, ↓op_field, ↓op_indexAddr, ↓op_index, ↓op_extract, ↓op_lookup, ↓op_mapUpdate, ↓op_makeMap, ↓op_range, ↓op_next, ↓op_call, ↓op_builtin, ↓g_tt, ↓g_ff, ↓g_tf, ↓g_ft, ↓g_tnt, ↓g_tnf, ↓g_fnt, ↓g_fnf, ↓mkT_getD, hp, Int.toNat_natCast]
  refine RestT.loopF (β := Nat) [(6, 8), (10, 27)] (fun k => [(8, .int .i64 ((i + k : Nat) : Int))]) (fun _ => fun _ => none) (fun k => k ≤ n - i ∧ ∀ j, j < k → decide (den ≤ cell get (i + j) 1 * num) = false) (fun k => n - i - k) 0 ⟨Nat.zero_le _, fun j hj => absurd hj (Nat.not_lt_zero _)⟩ ?_ HpLe.none ?_
  · simp (maxSteps := 4000000) only [go_sem, ↓op_move, ↓op_assign, ↓op_pick, ↓op_alloc, ↓op_box, ↓op_build, ↓op_buildSlice, ↓op_load, ↓op_store, ↓op_nilCheck, ↓op_bin, ↓op_un, ↓op_convert, ↓op_makeFunc, ↓op_makeSlice, ↓op_slice, ↓op_fieldAddr, ↓op_field, ↓op_indexAddr, ↓op_index, ↓op_extract, ↓op_lookup, ↓op_mapUpdate, ↓op_makeMap, ↓op_range, ↓op_next, ↓op_call, ↓op_builtin, ↓g_tt, ↓g_ff, ↓g_tf, ↓g_ft, ↓g_tnt, ↓g_tnf, ↓g_fnt, ↓g_fnf, ↓mkT_getD]
    try exact rfl
  · intro ck k hck hI
    obtain ⟨hk, hno⟩ := hI
    generalize hq0 : exC _ _ _ _ _ = gg
    by_cases hlt : k < n - i
    · have hd3 : decide (((i + k : Nat) : Int) < (n : Int)) = true := decide_eq_true (by omega)
      obtain ⟨hgk, hiv⟩ := hair.2 (i + k) (by omega)
      have hp2 := hiv.pu
      have w := airE_wind hae (show i + k < n by omega)
      have hm := Int.mul_le_mul (show cell get (i + k) 1 ≤ 2000 by omega) hnum.2 (by omega) (by omega)
      have hm0 : 0 ≤ cell get (i + k) 1 * num := Int.mul_nonneg (by omega) (by omega)
      cases hh : decide (den ≤ cell get (i + k) 1 * num)
      · rw [← hq0]
        clear hq0
        simp (maxSteps := 4000000) only [go_sem, ↓op_move, ↓op_assign, ↓op_pick, ↓op_alloc, ↓op_box, ↓op_build, ↓op_buildSlice, ↓op_load, ↓op_store, ↓op_nilCheck, ↓op_bin, ↓op_un, ↓op_convert, ↓op_makeFunc, ↓op_makeSlice, ↓op_slice, ↓op_fieldAddr, ↓op_field, ↓op_indexAddr, ↓op_index, ↓op_extract, ↓op_lookup, ↓op_mapUpdate, ↓op_makeMap, ↓op_range, ↓op_next, ↓op_call, ↓op_builtin, ↓g_tt, ↓g_ff, ↓g_tf, ↓g_ft, ↓g_tnt, ↓g_tnf, ↓g_fnt, ↓g_fnf, ↓mkT_getD, hd3, hgk, hp2, hp, hh, Int.toNat_natCast]
        refine ⟨⟨by omega, by omega⟩, inK_of (by omega) (by omega), inK_of (by omega) (by omega), k + 1, ⟨by omega, fun j hj => ?_⟩, by omega, ?_, HpLe.none⟩
        · by_cases e : j = k
          · subst e; exact of_decide_eq_false hh
          · exact of_decide_eq_false (hno j (by omega))
        · rw [show ((i + k : Nat) : Int) + 1 = ((i + (k + 1) : Nat) : Int) by omega]
      · have hI : turnI n get i num den = ((i + k : Nat) : Int) := idxF_hit hlt hh hno
        rw [← hq0]
        clear hq0
        simp (maxSteps := 4000000) only [go_sem, ↓op_move, ↓op_assign, ↓op_pick, ↓op_alloc, ↓op_box, ↓op_build, ↓op_buildSlice, ↓op_load, ↓op_store, ↓op_nilCheck, ↓op_bin, ↓op_un, ↓op_convert, ↓op_makeFunc, ↓op_makeSlice, ↓op_slice, ↓op_fieldAddr, ↓op_field, ↓op_indexAddr, ↓op_index, ↓op_extract, ↓op_lookup, ↓op_mapUpdate, ↓op_makeMap, ↓op_range, ↓op_next, ↓op_call, ↓op_builtin, ↓g_tt, ↓g_ff, ↓g_tf, ↓g_ft, ↓g_tnt, ↓g_tnf, ↓g_fnt, ↓g_fnf, ↓mkT_getD, hd3, hgk, hp2, hp, hh, Int.toNat_natCast]
        refine ⟨⟨by omega, by omega⟩, inK_of (by omega) (by omega), VEnt.of_eq ?_⟩
        simp only [hI]
        rw [if_neg (by omega)]; rfl
    · have hd3 : decide (((i + k : Nat) : Int) < (n : Int)) = false := decide_eq_false (by omega)
      have hI : turnI n get i num den = -1 := idxF_none fun j hj => hno j (by omega)
      rw [← hq0]
      clear hq0
      simp (maxSteps := 4000000) only [go_sem, ↓op_move, ↓op_assign, ↓op_pick, ↓op_alloc, ↓op_box, ↓op_build, ↓op_buildSlice, ↓op_load, ↓op_store, ↓op_nilCheck, ↓op_bin, ↓op_un, ↓op_convert, ↓op_makeFunc, ↓op_makeSlice, ↓op_slice, ↓op_fieldAddr, ↓op_field, ↓op_indexAddr, ↓op_index, ↓op_extract, ↓op_lookup, ↓op_mapUpdate, ↓op_makeMap, ↓op_range, ↓op_next, ↓op_call, ↓op_builtin, ↓g_tt, ↓g_ff, ↓g_tf, ↓g_ft, ↓g_tnt, ↓g_tnf, ↓g_fnt, ↓g_fnf, ↓mkT_getD, hd3, hp]
      refine VEnt.of_eq ?_
      simp only [hI]; rfl

theorem wBent_ok : Holds Proofs.Tryz.prog G0 8 airRayC := by
  refine Holds.of_exC D8 Proofs.Tryz.func8 rfl foll (by kernel_rfl) (tab [(15, awakeC), (16, shortAirC), (17, airC), (19, ownAirC), (22, firstC), (30, toPathRC), (32, pathC), (52, lixC), (56, bent3C), (57, shad3C), (58, turn3C), (59, slowC), (60, bentRC), (61, shadRC), (62, turnRC), (iceKey 4, iceC), (iceKey 5, iceC)]) (tab_ok ⟨lAwake_ok, rAirShort_ok, rAir_ok, lOwn_ok, qFirst_ok, lPath_ok, rPth_ok, rLix_ok, gBent_ok, gShad_ok, gTurn_ok, rSlow_ok, rBent_ok, rShad_ok, rTurn_ok, ice_holds, ice_holds, trivial⟩) G0_ok fun k0 rl args hpu hpre => ?_
  unfold airRayC at hpre ⊢
  split at hpre
  rotate_left
  · exact hpre.elim
  rename_i n sz get a b c d e f i x y
  obtain ⟨rfl, hair⟩ := hpre
  have hp := hair.pu
  have hn := hair.1
  cases hsh : shortAirB n get
  · simp only [Proofs.Tryz.f8]
    rw [enter_mkT (Nat.le_of_ble_eq_true rfl)]
    simp (maxSteps := 4000000) only [go_sem, ↓op_move, ↓op_assign, ↓op_pick, ↓op_alloc, ↓op_box, ↓op_build, ↓op_buildSlice, ↓op_load, ↓op_store, ↓op_nilCheck, ↓op_bin, ↓op_un, ↓op_convert, ↓op_makeFunc, ↓op_makeSlice, ↓op_slice, ↓op_fieldAddr, ↓op_field, ↓op_indexAddr, ↓op_index, ↓op_extract, ↓op_lookup, ↓op_mapUpdate, ↓op_makeMap, ↓op_range, ↓op_next, ↓op_call, ↓op_builtin, ↓g_tt, ↓g_ff, ↓g_tf, ↓g_ft, ↓g_tnt, ↓g_tnf, ↓g_fnt, ↓g_fnf, ↓mkT_getD, hp, hsh]
    exact ⟨hair, VEnt.refl _⟩
  · obtain ⟨hn9, hb9⟩ := short_use hsh
    have hown : IsAir n get ∧ n ≤ 1000 ∧ ∀ i, i < n → inN get i 4 ≤ 1000 := ⟨hair, by omega, fun i hi => by have := hb9 i hi; omega⟩
    have hce : firstL [airE n get, pathE a b c d e f] = checkE n get a b c d e f := rfl
    have hre : firstL [airE n get, lixE n i, slowE x y] = rayE n get i x y := rfl
    have hT := rayE_turn n get i x y
    have hrt : ∀ q : rayE n get i x y = 0, airE n get = 0 ∧ (0 ≤ i ∧ i < n) ∧ (1 ≤ x ∧ x ≤ 100000) ∧ (1 ≤ y ∧ y ≤ 100000) := fun q => by
      have hz := firstL_zero.1 q
      exact ⟨hz _ (by simp), lixE_zero.1 (hz (lixE n i) (by simp)), slowE_zero (hz (slowE x y) (by simp))⟩
    by_cases h2 : checkE n get a b c d e f = 0
    · have d2 : decide (checkE n get a b c d e f = 0) = true := decide_eq_true h2
      have d3 : decide ((0 : Int) = checkE n get a b c d e f) = true := decide_eq_true h2.symm
      have o2 := orE_noA h2
      obtain ⟨hae, hpath⟩ := checkE_zero.1 h2
      by_cases h4 : rayE n get i x y = 0
      · have d4 : decide (rayE n get i x y = 0) = true := decide_eq_true h4
        rw [if_neg (by simp [h4])] at hT
        have hry := hrt h4
        by_cases h5 : turnI n get i.toNat x y = -1
        · have o5 : ∀ z g : V, orE (if turnI n get i.toNat x y = -1 then 7 else 0) z g = .tup [z, .int .i64 7] := fun z g => by rw [if_pos h5]; rfl
          simp only [Proofs.Tryz.f8]
          rw [enter_mkT (Nat.le_of_ble_eq_true rfl)]
          simp (maxSteps := 4000000) only [go_sem, ↓op_move, ↓op_assign, ↓op_pick, ↓op_alloc, ↓op_box, ↓op_build, ↓op_buildSlice, ↓op_load, ↓op_store, ↓op_nilCheck, ↓op_bin, ↓op_un, ↓op_convert, ↓op_makeFunc, ↓op_makeSlice, ↓op_slice, ↓op_fieldAddr, ↓op_field, ↓op_indexAddr, ↓op_index, ↓op_extract, ↓op_lookup, ↓op_mapUpdate, ↓op_makeMap, ↓op_range, ↓op_next, ↓op_call, ↓op_builtin, ↓g_tt, ↓g_ff, ↓g_tf, ↓g_ft, ↓g_tnt, ↓g_tnf, ↓g_fnt, ↓g_fnf, ↓mkT_getD, hp, hsh, hce, hre, o2, d2, d3, d4, hT, o5, dec_self]
          exact ⟨hair, hown, hair, hown, hair, hown, hair, hair, ⟨hair, hae, hpath⟩, ⟨hair, hae, hpath⟩, ⟨hair, hry⟩, fun _ => VEnt.refl _, fun q => by simp at q⟩
        · have o5 : ∀ z g : V, orE (if turnI n get i.toNat x y = -1 then 7 else 0) z g = .tup [g, .int .i64 0] := fun z g => by rw [if_neg h5]; rfl
          simp only [Proofs.Tryz.f8]
          rw [enter_mkT (Nat.le_of_ble_eq_true rfl)]
          simp (maxSteps := 4000000) only [go_sem, ↓op_move, ↓op_assign, ↓op_pick, ↓op_alloc, ↓op_box, ↓op_build, ↓op_buildSlice, ↓op_load, ↓op_store, ↓op_nilCheck, ↓op_bin, ↓op_un, ↓op_convert, ↓op_makeFunc, ↓op_makeSlice, ↓op_slice, ↓op_fieldAddr, ↓op_field, ↓op_indexAddr, ↓op_index, ↓op_extract, ↓op_lookup, ↓op_mapUpdate, ↓op_makeMap, ↓op_range, ↓op_next, ↓op_call, ↓op_builtin, ↓g_tt, ↓g_ff, ↓g_tf, ↓g_ft, ↓g_tnt, ↓g_tnf, ↓g_fnt, ↓g_fnf, ↓mkT_getD, hp, hsh, hce, hre, o2, d2, d3, d4, hT, o5, dec_self]
          exact ⟨hair, hown, hair, hown, hair, hown, hair, hair, ⟨hair, hae, hpath⟩, ⟨hair, hae, hpath⟩, ⟨hair, hry⟩, fun _ => VEnt.refl _, fun q => by simp at q⟩
      · have d4 : decide (rayE n get i x y = 0) = false := decide_eq_false h4
        have o4 := orE_errA h4
        rw [if_pos h4] at hT
        simp only [Proofs.Tryz.f8]
        rw [enter_mkT (Nat.le_of_ble_eq_true rfl)]
        simp (maxSteps := 4000000) only [go_sem, ↓op_move, ↓op_assign, ↓op_pick, ↓op_alloc, ↓op_box, ↓op_build, ↓op_buildSlice, ↓op_load, ↓op_store, ↓op_nilCheck, ↓op_bin, ↓op_un, ↓op_convert, ↓op_makeFunc, ↓op_makeSlice, ↓op_slice, ↓op_fieldAddr, ↓op_field, ↓op_indexAddr, ↓op_index, ↓op_extract, ↓op_lookup, ↓op_mapUpdate, ↓op_makeMap, ↓op_range, ↓op_next, ↓op_call, ↓op_builtin, ↓g_tt, ↓g_ff, ↓g_tf, ↓g_ft, ↓g_tnt, ↓g_tnf, ↓g_fnt, ↓g_fnf, ↓mkT_getD, hp, hsh, hce, hre, o2, d2, d3, d4, hT, o4, dec_self]
        exact ⟨hair, hown, hair, hown, hair, hown, hair, hair, ⟨hair, hae, hpath⟩, ⟨hair, hae, hpath⟩, fun _ => VEnt.refl _, fun q => by simp at q⟩
    · have d2 : decide (checkE n get a b c d e f = 0) = false := decide_eq_false h2
      have o2 := orE_errA h2
      by_cases h4 : rayE n get i x y = 0
      · have d4 : decide (rayE n get i x y = 0) = true := decide_eq_true h4
        rw [if_neg (by simp [h4])] at hT
        have hry := hrt h4
        by_cases h5 : turnI n get i.toNat x y = -1
        · have o5 : ∀ z g : V, orE (if turnI n get i.toNat x y = -1 then 7 else 0) z g = .tup [z, .int .i64 7] := fun z g => by rw [if_pos h5]; rfl
          simp only [Proofs.Tryz.f8]
          rw [enter_mkT (Nat.le_of_ble_eq_true rfl)]
          simp (maxSteps := 4000000) only [go_sem, ↓op_move, ↓op_assign, ↓op_pick, ↓op_alloc, ↓op_box, ↓op_build, ↓op_buildSlice, ↓op_load, ↓op_store, ↓op_nilCheck, ↓op_bin, ↓op_un, ↓op_convert, ↓op_makeFunc, ↓op_makeSlice, ↓op_slice, ↓op_fieldAddr, ↓op_field, ↓op_indexAddr, ↓op_index, ↓op_extract, ↓op_lookup, ↓op_mapUpdate, ↓op_makeMap, ↓op_range, ↓op_next, ↓op_call, ↓op_builtin, ↓g_tt, ↓g_ff, ↓g_tf, ↓g_ft, ↓g_tnt, ↓g_tnf, ↓g_fnt, ↓g_fnf, ↓mkT_getD, hp, hsh, hce, hre, o2, d2, d4, hT, o5, dec_self]
          exact ⟨hair, hown, hair, hown, hair, hown, hair, hair, ⟨hair, hry⟩, fun _ => VEnt.refl _, fun q => by simp at q⟩
        · have o5 : ∀ z g : V, orE (if turnI n get i.toNat x y = -1 then 7 else 0) z g = .tup [g, .int .i64 0] := fun z g => by rw [if_neg h5]; rfl
          simp only [Proofs.Tryz.f8]
          rw [enter_mkT (Nat.le_of_ble_eq_true rfl)]
          simp (maxSteps := 4000000) only [go_sem, ↓op_move, ↓op_assign, ↓op_pick, ↓op_alloc, ↓op_box, ↓op_build, ↓op_buildSlice, ↓op_load, ↓op_store, ↓op_nilCheck, ↓op_bin, ↓op_un, ↓op_convert, ↓op_makeFunc, ↓op_makeSlice, ↓op_slice, ↓op_fieldAddr, ↓op_field, ↓op_indexAddr, ↓op_index, ↓op_extract, ↓op_lookup, ↓op_mapUpdate, ↓op_makeMap, ↓op_range, ↓op_next, ↓op_call, ↓op_builtin, ↓g_tt, ↓g_ff, ↓g_tf, ↓g_ft, ↓g_tnt, ↓g_tnf, ↓g_fnt, ↓g_fnf, ↓mkT_getD, hp, hsh, hce, hre, o2, d2, d4, hT, o5, dec_self]
          exact ⟨hair, hown, hair, hown, hair, hown, hair, hair, ⟨hair, hry⟩, fun _ => VEnt.refl _, fun q => by simp at q⟩
      · have d4 : decide (rayE n get i x y = 0) = false := decide_eq_false h4
        have o4 := orE_errA h4
        rw [if_pos h4] at hT
        simp only [Proofs.Tryz.f8]
        rw [enter_mkT (Nat.le_of_ble_eq_true rfl)]
        simp (maxSteps := 4000000) only [go_sem, ↓op_move, ↓op_assign, ↓op_pick, ↓op_alloc, ↓op_box, ↓op_build, ↓op_buildSlice, ↓op_load, ↓op_store, ↓op_nilCheck, ↓op_bin, ↓op_un, ↓op_convert, ↓op_makeFunc, ↓op_makeSlice, ↓op_slice, ↓op_fieldAddr, ↓op_field, ↓op_indexAddr, ↓op_index, ↓op_extract, ↓op_lookup, ↓op_mapUpdate, ↓op_makeMap, ↓op_range, ↓op_next, ↓op_call, ↓op_builtin, ↓g_tt, ↓g_ff, ↓g_tf, ↓g_ft, ↓g_tnt, ↓g_tnf, ↓g_fnt, ↓g_fnf, ↓mkT_getD, hp, hsh, hce, hre, o2, d2, d4, hT, o4, dec_self]
        exact ⟨hair, hown, hair, hown, hair, hown, hair, hair, fun _ => VEnt.refl _, fun q => by simp at q⟩
end Go.Fly.Tryz
