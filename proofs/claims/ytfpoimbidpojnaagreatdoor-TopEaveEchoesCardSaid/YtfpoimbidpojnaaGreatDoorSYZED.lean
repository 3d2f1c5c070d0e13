/- Part of a proof: an evaluator of the model's code by abstract values, and plain laws for it. No conditions. -/
import Derived.Test.YtfpoimbidpojnaaGreatDoorSYZEB
import Derived.Test.YtfpoimbidpojnaaGreatDoorAP
import Derived.Test.YtfpoimbidpojnaaGreatDoorSYZBE
set_option linter.unusedSimpArgs false
set_option linter.unusedVariables false
section
/- Lengths, detours, depths, factors. -/
set_option maxRecDepth 100000
set_option maxHeartbeats 2000000
namespace Go.Fly.Tryz
open Go

theorem sq_lt {h sq : Int} (h0 : 0 ≤ h) (hs : sq ≤ 1000000000000) (hh : h * h ≤ sq) : h ≤ 1000000 := by
  rcases Int.lt_or_le 1000000 h with q | q
  · have := Int.mul_le_mul (show 1000001 ≤ h by omega) (show 1000001 ≤ h by omega) (by decide) h0
    omega
  · exact q

theorem tLength_ok : Holds Proofs.Tryz.prog G0 27 lengthC := by
  refine Holds.of_exC D27 Proofs.Tryz.func27 rfl foll (by kernel_rfl) (tab []) (tab_ok trivial) G0_ok fun k0 rl args hpu hpre => ?_
  unfold lengthC at hpre ⊢
  split at hpre
  rotate_left
  · exact hpre.elim
  rename_i sq
  obtain ⟨h0, h1⟩ := hpre
  simp only [Proofs.Tryz.f27]
  rw [enter_mkT (Nat.le_of_ble_eq_true rfl)]
  simp (maxSteps := 4000000) only [go_sem, ↓op_move, ↓op_assign, ↓op_pick, ↓op_alloc, ↓op_box, ↓op_build, ↓op_buildSlice, ↓op_load, ↓op_store, ↓op_nilCheck, ↓op_bin, ↓op_un, ↓op_convert, ↓op_makeFunc, ↓op_makeSlice, ↓op_slice, ↓op_fieldAddr, ↓op_field, ↓op_indexAddr, ↓op_index, ↓op_extract, ↓op_lookup, ↓op_mapUpdate, ↓op_makeMap, ↓op_range, ↓op_next, ↓op_call, ↓op_builtin, ↓g_tt, ↓g_ff, ↓g_tf, ↓g_ft, ↓g_tnt, ↓g_tnf, ↓g_fnt, ↓g_fnf, ↓mkT_getD]
  refine RestT.loopF (β := Int) [(4, 4), (6, 12)] (fun h => [(4, .int .i64 h)]) (fun _ => _) (fun h => 1 ≤ h ∧ h ≤ 2000000) (fun h => (2000000 - h).toNat) 1 (by decide) ?_ (HpLe.refl _) ?_
  · simp (maxSteps := 4000000) only [go_sem, ↓op_move, ↓op_assign, ↓op_pick, ↓op_alloc, ↓op_box, ↓op_build, ↓op_buildSlice, ↓op_load, ↓op_store, ↓op_nilCheck, ↓op_bin, ↓op_un, ↓op_convert, ↓op_makeFunc, ↓op_makeSlice, ↓op_slice, ↓op_fieldAddr, ↓op_field, ↓op_indexAddr, ↓op_index, ↓op_extract, ↓op_lookup, ↓op_mapUpdate, ↓op_makeMap, ↓op_range, ↓op_next, ↓op_call, ↓op_builtin, ↓g_tt, ↓g_ff, ↓g_tf, ↓g_ft, ↓g_tnt, ↓g_tnf, ↓g_fnt, ↓g_fnf, ↓mkT_getD]
  · intro ck h hck hI
    obtain ⟨b1, b2⟩ := hI
    have hm := mul_le_of (a := h) (b := h) (A := 2000000) (B := 2000000) (by omega) b2 (by omega) b2
    simp (maxSteps := 4000000) only [go_sem, ↓op_move, ↓op_assign, ↓op_pick, ↓op_alloc, ↓op_box, ↓op_build, ↓op_buildSlice, ↓op_load, ↓op_store, ↓op_nilCheck, ↓op_bin, ↓op_un, ↓op_convert, ↓op_makeFunc, ↓op_makeSlice, ↓op_slice, ↓op_fieldAddr, ↓op_field, ↓op_indexAddr, ↓op_index, ↓op_extract, ↓op_lookup, ↓op_mapUpdate, ↓op_makeMap, ↓op_range, ↓op_next, ↓op_call, ↓op_builtin, ↓g_tt, ↓g_ff, ↓g_tf, ↓g_ft, ↓g_tnt, ↓g_tnf, ↓g_fnt, ↓g_fnf, ↓mkT_getD]
    refine ⟨inK_of (by omega) (by omega), fun hle => ?_, fun hgt => ?_⟩
    · have h3 := sq_lt (by omega) h1 hle
      exact ⟨inK_of (by omega) (by omega), by omega, h * 2, ⟨by omega, by omega⟩, by omega, rfl, HpLe.refl _⟩
    · refine RestT.loopF (β := Int × Int) [(3, 5), (13, 27)] (fun b => [(3, .int .i64 b.1), (4, .int .i64 b.2)]) (fun _ => _) (fun b => 0 ≤ b.1 ∧ b.1 < b.2 ∧ b.2 ≤ 2000000 ∧ b.1 * b.1 ≤ sq ∧ sq < b.2 * b.2) (fun b => (b.2 - b.1).toNat) (0, h)
        ⟨Int.le_refl _, by show 0 < h; omega, b2, by show (0:Int) * 0 ≤ sq; omega, by show sq < h * h; omega⟩ ?_ (HpLe.refl _) ?_
      · simp (maxSteps := 4000000) only [go_sem, ↓op_move, ↓op_assign, ↓op_pick, ↓op_alloc, ↓op_box, ↓op_build, ↓op_buildSlice, ↓op_load, ↓op_store, ↓op_nilCheck, ↓op_bin, ↓op_un, ↓op_convert, ↓op_makeFunc, ↓op_makeSlice, ↓op_slice, ↓op_fieldAddr, ↓op_field, ↓op_indexAddr, ↓op_index, ↓op_extract, ↓op_lookup, ↓op_mapUpdate, ↓op_makeMap, ↓op_range, ↓op_next, ↓op_call, ↓op_builtin, ↓g_tt, ↓g_ff, ↓g_tf, ↓g_ft, ↓g_tnt, ↓g_tnf, ↓g_fnt, ↓g_fnf, ↓mkT_getD]
      · intro ck2 b hck2 hI
        obtain ⟨lo, hi⟩ := b
        obtain ⟨i1, i2, i3, i4, i5⟩ := hI
        have i1 : 0 ≤ lo := i1
        have i2 : lo < hi := i2
        have i3 : hi ≤ 2000000 := i3
        have i4 : lo * lo ≤ sq := i4
        have i5 : sq < hi * hi := i5
        have hq : (lo + hi).tdiv 2 = (lo + hi) / 2 := Int.tdiv_eq_ediv_of_nonneg (by omega)
        have hm := mul_le_of (a := (lo + hi) / 2) (b := (lo + hi) / 2) (A := 2000000) (B := 2000000) (by omega) (by omega) (by omega) (by omega)
        simp (maxSteps := 4000000) only [go_sem, ↓op_move, ↓op_assign, ↓op_pick, ↓op_alloc, ↓op_box, ↓op_build, ↓op_buildSlice, ↓op_load, ↓op_store, ↓op_nilCheck, ↓op_bin, ↓op_un, ↓op_convert, ↓op_makeFunc, ↓op_makeSlice, ↓op_slice, ↓op_fieldAddr, ↓op_field, ↓op_indexAddr, ↓op_index, ↓op_extract, ↓op_lookup, ↓op_mapUpdate, ↓op_makeMap, ↓op_range, ↓op_next, ↓op_call, ↓op_builtin, ↓g_tt, ↓g_ff, ↓g_tf, ↓g_ft, ↓g_tnt, ↓g_tnf, ↓g_fnt, ↓g_fnf, ↓mkT_getD, hq]
        refine ⟨inK_of (by omega) (by omega), fun hgt => ?_, fun hle => ?_⟩
        · refine ⟨inK_of (by omega) (by omega), inK_of (by omega) (by omega), inK_of (by omega) (by omega), fun q => ?_, fun q => ?_⟩
          · exact ⟨by omega, ((lo + hi) / 2, hi), ⟨by show 0 ≤ (lo + hi) / 2; omega, by show (lo + hi) / 2 < hi; omega, i3, q, i5⟩, by show (hi - (lo + hi) / 2).toNat < (hi - lo).toNat; omega, ⟨rfl, rfl⟩, HpLe.refl _⟩
          · exact ⟨by omega, (lo, (lo + hi) / 2), ⟨i1, by show lo < (lo + hi) / 2; omega, by show (lo + hi) / 2 ≤ 2000000; omega, i4, by show sq < (lo + hi) / 2 * ((lo + hi) / 2); omega⟩, by show ((lo + hi) / 2 - lo).toNat < (hi - lo).toNat; omega, ⟨rfl, rfl⟩, HpLe.refl _⟩
        · obtain rfl : hi = lo + 1 := by omega
          have hl := len_eq h0 i1 i4 i5
          have hb := mul_le_of (a := lo) (b := lo) (A := 2000000) (B := 2000000) (by omega) (by omega) (by omega) (by omega)
          refine ⟨inK_of (by omega) (by omega), fun q => ?_, fun q => ?_⟩
          · refine VEnt.of_eq ?_
            unfold lenHi; rw [hl, if_pos q]
          · refine VEnt.of_eq ?_
            unfold lenHi; rw [hl, if_neg q]

theorem tLength2_ok : Holds Proofs.Tryz.prog G0 7 length2C := by
  refine Holds.of_exC D7 Proofs.Tryz.func7 rfl foll (by kernel_rfl) (tab [(26, withinC), (27, lengthC)]) (tab_ok ⟨tWithin_ok, tLength_ok, trivial⟩) G0_ok fun k0 rl args hpu hpre => ?_
  unfold length2C at hpre ⊢
  split at hpre
  rotate_left
  · exact hpre.elim
  rename_i sq
  obtain ⟨h0, h1⟩ := hpre
  have hr : rng sq 0 20000000 = 0 := rng_zero.2 ⟨h0, h1⟩
  simp only [Proofs.Tryz.f7]
  rw [enter_mkT (Nat.le_of_ble_eq_true rfl)]
  simp (maxSteps := 4000000) only [go_sem, ↓op_move, ↓op_assign, ↓op_pick, ↓op_alloc, ↓op_box, ↓op_build, ↓op_buildSlice, ↓op_load, ↓op_store, ↓op_nilCheck, ↓op_bin, ↓op_un, ↓op_convert, ↓op_makeFunc, ↓op_makeSlice, ↓op_slice, ↓op_fieldAddr, ↓op_field, ↓op_indexAddr, ↓op_index, ↓op_extract, ↓op_lookup, ↓op_mapUpdate, ↓op_makeMap, ↓op_range, ↓op_next, ↓op_call, ↓op_builtin, ↓g_tt, ↓g_ff, ↓g_tf, ↓g_ft, ↓g_tnt, ↓g_tnf, ↓g_fnt, ↓g_fnf, ↓mkT_getD, hr]
  exact ⟨⟨h0, by omega⟩, VEnt.of_eq rfl⟩

theorem tDetour_ok : Holds Proofs.Tryz.prog G0 102 detourC := by
  refine Holds.of_exC D102 Proofs.Tryz.func102 rfl foll (by kernel_rfl) (tab [(27, lengthC), (84, apartC), (iceKey 3, iceC), (iceKey 4, iceC), (iceKey 5, iceC)]) (tab_ok ⟨tLength_ok, tApart_ok, ice_holds, ice_holds, ice_holds, trivial⟩) G0_ok fun k0 rl args hpu hpre => ?_
  unfold detourC at hpre ⊢
  split at hpre
  rotate_left
  · exact hpre.elim
  rename_i x y z ex ey ez u v w
  obtain ⟨h1, h2, h3⟩ := hpre
  have b1 := (apart_bd h1 h2).2.2.2
  have b2 := (apart_bd h2 h3).2.2.2
  have b3 := (apart_bd h1 h3).2.2.2
  have l1 := len_bd (k := 3000) b1.1 (by omega) (by omega)
  have l2 := len_bd (k := 3000) b2.1 (by omega) (by omega)
  have l3 := len_bd (k := 3000) b3.1 (by omega) (by omega)
  simp only [Proofs.Tryz.f102]
  rw [enter_mkT (Nat.le_of_ble_eq_true rfl)]
  simp (maxSteps := 4000000) only [go_sem, ↓op_move, ↓op_assign, ↓op_pick, ↓op_alloc, ↓op_box, ↓op_build, ↓op_buildSlice, ↓op_load, ↓op_store, ↓op_nilCheck, ↓op_bin, ↓op_un, ↓op_convert, ↓op_makeFunc, ↓op_makeSlice, ↓op_slice, ↓op_fieldAddr, ↓op_field, ↓op_indexAddr, ↓op_index, ↓op_extract, ↓op_lookup, ↓op_mapUpdate, ↓op_makeMap, ↓op_range, ↓op_next, ↓op_call, ↓op_builtin, ↓g_tt, ↓g_ff, ↓g_tf, ↓g_ft, ↓g_tnt, ↓g_tnf, ↓g_fnt, ↓g_fnf, ↓mkT_getD]
  exact ⟨⟨h1, h2⟩, ⟨b1.1, by omega⟩, ⟨h2, h3⟩, ⟨b2.1, by omega⟩, ⟨h1, h3⟩, ⟨b3.1, by omega⟩, inK_of (by omega) (by omega), inK_of (by omega) (by omega), inK_of (by omega) (by omega), inK_of (by omega) (by omega), VEnt.of_eq rfl⟩

theorem tDepth1_ok : Holds Proofs.Tryz.prog G0 101 capDetC := by
  refine Holds.of_exC D101 Proofs.Tryz.func101 rfl foll (by kernel_rfl) (tab [(102, detourC), (iceKey 4, iceC)]) (tab_ok ⟨tDetour_ok, ice_holds, trivial⟩) G0_ok fun k0 rl args hpu hpre => ?_
  unfold capDetC at hpre ⊢
  split at hpre
  rotate_left
  · exact hpre.elim
  rename_i px py sx sy sz low rx ry rz
  obtain ⟨h1, h2, h3⟩ := hpre
  simp only [Proofs.Tryz.f101]
  rw [enter_mkT (Nat.le_of_ble_eq_true rfl)]
  simp (maxSteps := 4000000) only [go_sem, ↓op_move, ↓op_assign, ↓op_pick, ↓op_alloc, ↓op_box, ↓op_build, ↓op_buildSlice, ↓op_load, ↓op_store, ↓op_nilCheck, ↓op_bin, ↓op_un, ↓op_convert, ↓op_makeFunc, ↓op_makeSlice, ↓op_slice, ↓op_fieldAddr, ↓op_field, ↓op_indexAddr, ↓op_index, ↓op_extract, ↓op_lookup, ↓op_mapUpdate, ↓op_makeMap, ↓op_range, ↓op_next, ↓op_call, ↓op_builtin, ↓g_tt, ↓g_ff, ↓g_tf, ↓g_ft, ↓g_tnt, ↓g_tnf, ↓g_fnt, ↓g_fnf, ↓mkT_getD]
  exact ⟨⟨h1, h2, h3⟩, VEnt.of_eq rfl⟩

theorem tDepth_ok : Holds Proofs.Tryz.prog G0 93 depthC := by
  refine Holds.of_exC D93 Proofs.Tryz.func93 rfl foll (by kernel_rfl) (tab [(78, wholeC), (81, excessC), (94, upC), (101, capDetC), (iceKey 3, iceC), (iceKey 4, iceC), (iceKey 5, iceC)]) (tab_ok ⟨tWhole_ok, tExcess_ok, tUp_ok, tDepth1_ok, ice_holds, ice_holds, ice_holds, trivial⟩) G0_ok fun k0 rl args hpu hpre => ?_
  unfold depthC at hpre ⊢
  split at hpre
  rotate_left
  · exact hpre.elim
  rename_i nm ax ay bx ky h ec sx sy sz rx ry rz
  obtain ⟨hw, hs, hr⟩ := hpre
  have hs' := hs
  have hr' := hr
  obtain ⟨s1, s2, s3⟩ := hs
  obtain ⟨r1, r2, r3⟩ := hr
  have eb := exc_bd (sz := sz) (tx := rx) (ty := ry) (tz := rz) (den := 1) hw.p1 hw.p2 hw.p3 hw.p4 hw.high hs' (by omega) (by omega) (by omega) (by omega) (by omega)
  have ea : SpotOk ax ay (min sz rz) := ⟨hw.p1, hw.p2, by omega⟩
  have eb2 : SpotOk bx ky (min sz rz) := ⟨hw.p3, hw.p4, by omega⟩
  cases hx : excB ax ay bx ky h sx sy sz rx ry rz 1
  · simp only [Proofs.Tryz.f93]
    rw [enter_mkT (Nat.le_of_ble_eq_true rfl)]
    simp (maxSteps := 4000000) only [go_sem, ↓op_move, ↓op_assign, ↓op_pick, ↓op_alloc, ↓op_box, ↓op_build, ↓op_buildSlice, ↓op_load, ↓op_store, ↓op_nilCheck, ↓op_bin, ↓op_un, ↓op_convert, ↓op_makeFunc, ↓op_makeSlice, ↓op_slice, ↓op_fieldAddr, ↓op_field, ↓op_indexAddr, ↓op_index, ↓op_extract, ↓op_lookup, ↓op_mapUpdate, ↓op_makeMap, ↓op_range, ↓op_next, ↓op_call, ↓op_builtin, ↓g_tt, ↓g_ff, ↓g_tf, ↓g_ft, ↓g_tnt, ↓g_tnf, ↓g_fnt, ↓g_fnf, ↓mkT_getD, hx]
    refine ⟨⟨hw, hs', r1, r2, r3⟩, VEnt.of_eq ?_⟩
    unfold depthE; rw [hx]; rfl
  · have hc : cutB ax ay bx ky sx sy rx ry 1 = true := by
      unfold excB at hx; simp only [Bool.and_eq_true] at hx; exact hx.1
    have hp0 : 0 < excNum ax ay bx ky h sx sy sz rx ry rz 1 := by
      unfold excB at hx; simp only [Bool.and_eq_true, decide_eq_true_eq] at hx; exact hx.2
    have hp1 : excNum ax ay bx ky h sx sy sz rx ry rz 1 ≤ 1000000000000000000 := by
      unfold excNum
      obtain ⟨q1, q2, q3, q4, q5, q6⟩ := eb
      omega
    have hp2 := eb.2.2.2.2.2 hc
    simp only [Proofs.Tryz.f93]
    rw [enter_mkT (Nat.le_of_ble_eq_true rfl)]
    simp (maxSteps := 4000000) only [go_sem, ↓op_move, ↓op_assign, ↓op_pick, ↓op_alloc, ↓op_box, ↓op_build, ↓op_buildSlice, ↓op_load, ↓op_store, ↓op_nilCheck, ↓op_bin, ↓op_un, ↓op_convert, ↓op_makeFunc, ↓op_makeSlice, ↓op_slice, ↓op_fieldAddr, ↓op_field, ↓op_indexAddr, ↓op_index, ↓op_extract, ↓op_lookup, ↓op_mapUpdate, ↓op_makeMap, ↓op_range, ↓op_next, ↓op_call, ↓op_builtin, ↓g_tt, ↓g_ff, ↓g_tf, ↓g_ft, ↓g_tnt, ↓g_tnf, ↓g_fnt, ↓g_fnf, ↓mkT_getD, hx, hc, frz_ptr]
    refine ⟨⟨hw, hs', r1, r2, r3⟩, ⟨by omega, hp1, hp2⟩, ⟨hs', ea, hr'⟩, ⟨hs', eb2, hr'⟩, VEnt.of_eq ?_⟩
    unfold depthE; rw [if_pos hx]

theorem tDepths1_ok : Holds Proofs.Tryz.prog G0 92 capDepthC := by
  refine Holds.of_exC D92 Proofs.Tryz.func92 rfl foll (by kernel_rfl) (tab [(93, depthC), (iceKey 3, iceC)]) (tab_ok ⟨tDepth_ok, ice_holds, trivial⟩) G0_ok fun k0 rl args hpu hpre => ?_
  unfold capDepthC at hpre ⊢
  split at hpre
  rotate_left
  · exact hpre.elim
  rename_i nm ax ay bx ky h ec sx sy sz rx ry rz
  obtain ⟨hw, hs, hr⟩ := hpre
  simp only [Proofs.Tryz.f92]
  rw [enter_mkT (Nat.le_of_ble_eq_true rfl)]
  simp (maxSteps := 4000000) only [go_sem, ↓op_move, ↓op_assign, ↓op_pick, ↓op_alloc, ↓op_box, ↓op_build, ↓op_buildSlice, ↓op_load, ↓op_store, ↓op_nilCheck, ↓op_bin, ↓op_un, ↓op_convert, ↓op_makeFunc, ↓op_makeSlice, ↓op_slice, ↓op_fieldAddr, ↓op_field, ↓op_indexAddr, ↓op_index, ↓op_extract, ↓op_lookup, ↓op_mapUpdate, ↓op_makeMap, ↓op_range, ↓op_next, ↓op_call, ↓op_builtin, ↓g_tt, ↓g_ff, ↓g_tf, ↓g_ft, ↓g_tnt, ↓g_tnf, ↓g_fnt, ↓g_fnf, ↓mkT_getD]
  exact ⟨⟨hw, hs, hr⟩, VEnt.of_eq rfl⟩

theorem tTimes_ok : Holds Proofs.Tryz.prog G0 63 timesC := by
  refine Holds.of_exC D63 Proofs.Tryz.func63 rfl foll (by kernel_rfl) (tab [(94, upC)]) (tab_ok ⟨tUp_ok, trivial⟩) G0_ok fun k0 rl args hpu hpre => ?_
  unfold timesC at hpre ⊢
  split at hpre
  rotate_left
  · exact hpre.elim
  rename_i e f
  obtain ⟨h0, h1, h2, h3⟩ := hpre
  have hm := mul_le_of h0 h1 h2 h3
  have hq : (e * f).tdiv 1000 = e * f / 1000 := Int.tdiv_eq_ediv_of_nonneg hm.1
  simp only [Proofs.Tryz.f63]
  rw [enter_mkT (Nat.le_of_ble_eq_true rfl)]
  simp (maxSteps := 4000000) only [go_sem, ↓op_move, ↓op_assign, ↓op_pick, ↓op_alloc, ↓op_box, ↓op_build, ↓op_buildSlice, ↓op_load, ↓op_store, ↓op_nilCheck, ↓op_bin, ↓op_un, ↓op_convert, ↓op_makeFunc, ↓op_makeSlice, ↓op_slice, ↓op_fieldAddr, ↓op_field, ↓op_indexAddr, ↓op_index, ↓op_extract, ↓op_lookup, ↓op_mapUpdate, ↓op_makeMap, ↓op_range, ↓op_next, ↓op_call, ↓op_builtin, ↓g_tt, ↓g_ff, ↓g_tf, ↓g_ft, ↓g_tnt, ↓g_tnf, ↓g_fnt, ↓g_fnf, ↓mkT_getD, hq]
  exact ⟨inK_of (by omega) (by omega), inK_of (by omega) (by omega), ⟨hm.1, by omega⟩, VEnt.of_eq rfl⟩

theorem tMapDepth_ok : Holds Proofs.Tryz.prog G0 91 (mapDepthC 92) := by
  refine Holds.of_exC D91 Proofs.Tryz.func91 rfl foll (by kernel_rfl) (tab [(92, capDepthC)]) (tab_ok ⟨tDepths1_ok, trivial⟩) G0_ok fun k0 rl args hpu hpre => ?_
  unfold mapDepthC at hpre ⊢
  split at hpre
  rotate_left
  · exact hpre.elim
  rename_i n sz get g sx sy sz' rx ry rz
  obtain ⟨rfl, hwl, hok, rfl, hs, hr⟩ := hpre
  have hn := hok.cnt
  have hpu := hwl.pu
  simp only [Proofs.Tryz.f91]
  rw [enter_mkT (Nat.le_of_ble_eq_true rfl)]
  simp (maxSteps := 4000000) only [go_sem, ↓op_move, ↓op_assign, ↓op_pick, ↓op_alloc, ↓op_box, ↓op_build, ↓op_buildSlice, ↓op_load, ↓op_store, ↓op_nilCheck, ↓op_bin, ↓op_un, ↓op_convert, ↓op_makeFunc, ↓op_makeSlice, ↓op_slice, ↓op_fieldAddr, ↓op_field, ↓op_indexAddr, ↓op_index, ↓op_extract, ↓op_lookup, ↓op_mapUpdate, ↓op_makeMap, ↓op_range, ↓op_next, ↓op_call, ↓op_builtin, ↓g_tt, ↓g_ff, ↓g_tf, ↓g_ft, ↓g_tnt, ↓g_tnf, ↓g_fnt, ↓g_fnf, ↓mkT_getD, hpu]
  refine RestT.ents (Ents.nilArr (d := 5) (l := (4, 1000)) 1 (fun _ => []) rfl rfl rfl) ?_
  simp (maxSteps := 4000000) only [go_sem, ↓op_move, ↓op_assign, ↓op_pick, ↓op_alloc, ↓op_box, ↓op_build, ↓op_buildSlice, ↓op_load, ↓op_store, ↓op_nilCheck, ↓op_bin, ↓op_un, ↓op_convert, ↓op_makeFunc, ↓op_makeSlice, ↓op_slice, ↓op_fieldAddr, ↓op_field, ↓op_indexAddr, ↓op_index, ↓op_extract, ↓op_lookup, ↓op_mapUpdate, ↓op_makeMap, ↓op_range, ↓op_next, ↓op_call, ↓op_builtin, ↓g_tt, ↓g_ff, ↓g_tf, ↓g_ft, ↓g_tnt, ↓g_tnf, ↓g_fnt, ↓g_fnf, ↓mkT_getD]
  refine RestT.loopF (β := Nat) [(5, 5), (7, 7), (10, 20)] (fun i => [(5, .msl (4, 1000) 0 i), (10, .int .i64 i)]) (fun i => updH (fun _ => none) (4, 1000) (.arr i 1 (fun i => [.int .i64 (wDepth get sx sy sz' rx ry rz i)]))) (fun i => i ≤ n) (fun i => n - i) 0 (Nat.zero_le _) ?_
    (HpLe.arr1 (updH_same _ _ _) rfl rfl fun i hi => by omega) ?_
  · simp (maxSteps := 4000000) only [go_sem, ↓op_move, ↓op_assign, ↓op_pick, ↓op_alloc, ↓op_box, ↓op_build, ↓op_buildSlice, ↓op_load, ↓op_store, ↓op_nilCheck, ↓op_bin, ↓op_un, ↓op_convert, ↓op_makeFunc, ↓op_makeSlice, ↓op_slice, ↓op_fieldAddr, ↓op_field, ↓op_indexAddr, ↓op_index, ↓op_extract, ↓op_lookup, ↓op_mapUpdate, ↓op_makeMap, ↓op_range, ↓op_next, ↓op_call, ↓op_builtin, ↓g_tt, ↓g_ff, ↓g_tf, ↓g_ft, ↓g_tnt, ↓g_tnf, ↓g_fnt, ↓g_fnf, ↓mkT_getD]
    try simp
  · intro ck i hck hi
    generalize hq0 : exC _ _ _ _ _ = gg
    by_cases hlt : i < n
    · have hd : decide ((i : Int) < (n : Int)) = true := by simp; omega
      have hg := (hwl.2 i hlt).1
      have hk := hok.wall i hlt
      rw [← hq0]
      clear hq0
      simp (maxSteps := 4000000) only [go_sem, ↓op_move, ↓op_assign, ↓op_pick, ↓op_alloc, ↓op_box, ↓op_build, ↓op_buildSlice, ↓op_load, ↓op_store, ↓op_nilCheck, ↓op_bin, ↓op_un, ↓op_convert, ↓op_makeFunc, ↓op_makeSlice, ↓op_slice, ↓op_fieldAddr, ↓op_field, ↓op_indexAddr, ↓op_index, ↓op_extract, ↓op_lookup, ↓op_mapUpdate, ↓op_makeMap, ↓op_range, ↓op_next, ↓op_call, ↓op_builtin, ↓g_tt, ↓g_ff, ↓g_tf, ↓g_ft, ↓g_tnt, ↓g_tnf, ↓g_fnt, ↓g_fnf, ↓mkT_getD, hg, hd, hpu]
      exact ⟨⟨by omega, by omega⟩, ⟨hk, hs, hr⟩, ⟨by omega, by omega, row_ok rfl ones1⟩, inK_of (by omega) (by omega), i + 1, hlt, by omega, ⟨rfl, rfl⟩, HpLe.arr1 (updH_same _ _ _) rfl rfl fun j hj => snoc (f := fun i => [.int .i64 (wDepth get sx sy sz' rx ry rz i)]) rfl rfl hj⟩
    · have hd : decide ((i : Int) < (n : Int)) = false := by simp; omega
      obtain rfl : i = n := by omega
      rw [← hq0]
      clear hq0
      simp (maxSteps := 4000000) only [go_sem, ↓op_move, ↓op_assign, ↓op_pick, ↓op_alloc, ↓op_box, ↓op_build, ↓op_buildSlice, ↓op_load, ↓op_store, ↓op_nilCheck, ↓op_bin, ↓op_un, ↓op_convert, ↓op_makeFunc, ↓op_makeSlice, ↓op_slice, ↓op_fieldAddr, ↓op_field, ↓op_indexAddr, ↓op_index, ↓op_extract, ↓op_lookup, ↓op_mapUpdate, ↓op_makeMap, ↓op_range, ↓op_next, ↓op_call, ↓op_builtin, ↓g_tt, ↓g_ff, ↓g_tf, ↓g_ft, ↓g_tnt, ↓g_tnf, ↓g_fnt, ↓g_fnf, ↓mkT_getD, hd, hpu]
      exact VEnt.of_eq (by simp)

theorem tDepths_ok : Holds Proofs.Tryz.prog G0 62 depthsC := by
  refine Holds.of_exC D62 Proofs.Tryz.func62 rfl foll (by kernel_rfl) (tab [(91, mapDepthC 92), (92, capDepthC), (iceKey 4, iceC), (iceKey 5, iceC)]) (tab_ok ⟨tMapDepth_ok, tDepths1_ok, ice_holds, ice_holds, trivial⟩) G0_ok fun k0 rl args hpu hpre => ?_
  unfold depthsC at hpre ⊢
  split at hpre
  rotate_left
  · exact hpre.elim
  rename_i n sz get sx sy sz' rx ry rz
  obtain ⟨rfl, hwl, hok, hs, hr⟩ := hpre
  have hn := hok.cnt
  have hpu := hwl.pu
  have hbd : ∀ i, i < n → 0 ≤ wDepth get sx sy sz' rx ry rz i ∧ wDepth get sx sy sz' rx ry rz i ≤ 10000 := fun i hi => ⟨depth_nn .., depth_bd (hok.wall i hi).p1 (hok.wall i hi).p2 hs hr⟩
  simp only [Proofs.Tryz.f62]
  rw [enter_mkT (Nat.le_of_ble_eq_true rfl)]
  simp (maxSteps := 4000000) only [go_sem, ↓op_move, ↓op_assign, ↓op_pick, ↓op_alloc, ↓op_box, ↓op_build, ↓op_buildSlice, ↓op_load, ↓op_store, ↓op_nilCheck, ↓op_bin, ↓op_un, ↓op_convert, ↓op_makeFunc, ↓op_makeSlice, ↓op_slice, ↓op_fieldAddr, ↓op_field, ↓op_indexAddr, ↓op_index, ↓op_extract, ↓op_lookup, ↓op_mapUpdate, ↓op_makeMap, ↓op_range, ↓op_next, ↓op_call, ↓op_builtin, ↓g_tt, ↓g_ff, ↓g_tf, ↓g_ft, ↓g_tnt, ↓g_tnf, ↓g_fnt, ↓g_fnf, ↓mkT_getD, hpu, frz_ptr]
  refine ⟨⟨hwl, hok, hs, hr⟩, ?_⟩
  refine RestT.loopF (β := Nat) [(8, 8), (10, 10), (16, 25)] (fun i => [(8, .int .i64 (sumI (wDepth get sx sy sz' rx ry rz) i)), (16, .int .i64 i)]) (fun _ => _) (fun i => i ≤ n) (fun i => n - i) 0 (Nat.zero_le _) ?_ (HpLe.refl _) ?_
  · simp (maxSteps := 4000000) only [go_sem, ↓op_move, ↓op_assign, ↓op_pick, ↓op_alloc, ↓op_box, ↓op_build, ↓op_buildSlice, ↓op_load, ↓op_store, ↓op_nilCheck, ↓op_bin, ↓op_un, ↓op_convert, ↓op_makeFunc, ↓op_makeSlice, ↓op_slice, ↓op_fieldAddr, ↓op_field, ↓op_indexAddr, ↓op_index, ↓op_extract, ↓op_lookup, ↓op_mapUpdate, ↓op_makeMap, ↓op_range, ↓op_next, ↓op_call, ↓op_builtin, ↓g_tt, ↓g_ff, ↓g_tf, ↓g_ft, ↓g_tnt, ↓g_tnf, ↓g_fnt, ↓g_fnf, ↓mkT_getD]
    first | exact rfl | exact ⟨rfl, rfl⟩
  · intro ck i hck hi
    generalize hq0 : exC _ _ _ _ _ = gg
    by_cases hlt : i < n
    · have hd : decide ((i : Int) < (n : Int)) = true := by simp; omega
      have s1 := sumI_bd (f := wDepth get sx sy sz' rx ry rz) (n := i + 1) fun j hj => hbd j (by omega)
      simp only [sumI] at s1
      rw [← hq0]
      clear hq0
      simp (maxSteps := 4000000) only [go_sem, ↓op_move, ↓op_assign, ↓op_pick, ↓op_alloc, ↓op_box, ↓op_build, ↓op_buildSlice, ↓op_load, ↓op_store, ↓op_nilCheck, ↓op_bin, ↓op_un, ↓op_convert, ↓op_makeFunc, ↓op_makeSlice, ↓op_slice, ↓op_fieldAddr, ↓op_field, ↓op_indexAddr, ↓op_index, ↓op_extract, ↓op_lookup, ↓op_mapUpdate, ↓op_makeMap, ↓op_range, ↓op_next, ↓op_call, ↓op_builtin, ↓g_tt, ↓g_ff, ↓g_tf, ↓g_ft, ↓g_tnt, ↓g_tnf, ↓g_fnt, ↓g_fnf, ↓mkT_getD, hd, hpu]
      exact ⟨⟨by omega, by omega⟩, inK_of (by omega) (by omega), inK_of (by omega) (by omega), by omega, i + 1, hlt, by omega, ⟨rfl, rfl⟩, HpLe.refl _⟩
    · have hd : decide ((i : Int) < (n : Int)) = false := by simp; omega
      obtain rfl : i = n := by omega
      rw [← hq0]
      clear hq0
      simp (maxSteps := 4000000) only [go_sem, ↓op_move, ↓op_assign, ↓op_pick, ↓op_alloc, ↓op_box, ↓op_build, ↓op_buildSlice, ↓op_load, ↓op_store, ↓op_nilCheck, ↓op_bin, ↓op_un, ↓op_convert, ↓op_makeFunc, ↓op_makeSlice, ↓op_slice, ↓op_fieldAddr, ↓op_field, ↓op_indexAddr, ↓op_index, ↓op_extract, ↓op_lookup, ↓op_mapUpdate, ↓op_makeMap, ↓op_range, ↓op_next, ↓op_call, ↓op_builtin, ↓g_tt, ↓g_ff, ↓g_tf, ↓g_ft, ↓g_tnt, ↓g_tnf, ↓g_fnt, ↓g_fnf, ↓mkT_getD, hd, hpu]
      exact VEnt.of_eq rfl

theorem tFactor_ok : Holds Proofs.Tryz.prog G0 64 factorC := by
  refine Holds.of_exC D64 Proofs.Tryz.func64 rfl foll (by kernel_rfl) (tab []) (tab_ok trivial) G0_ok fun k0 rl args hpu hpre => ?_
  unfold factorC at hpre ⊢
  split at hpre
  rotate_left
  · exact hpre.elim
  rename_i n sz get d
  obtain ⟨rfl, hiv, hok⟩ := hpre
  have hn := hok.cnt
  have hpu := hiv.pu
  simp only [Proofs.Tryz.f64]
  rw [enter_mkT (Nat.le_of_ble_eq_true rfl)]
  simp (maxSteps := 4000000) only [go_sem, ↓op_move, ↓op_assign, ↓op_pick, ↓op_alloc, ↓op_box, ↓op_build, ↓op_buildSlice, ↓op_load, ↓op_store, ↓op_nilCheck, ↓op_bin, ↓op_un, ↓op_convert, ↓op_makeFunc, ↓op_makeSlice, ↓op_slice, ↓op_fieldAddr, ↓op_field, ↓op_indexAddr, ↓op_index, ↓op_extract, ↓op_lookup, ↓op_mapUpdate, ↓op_makeMap, ↓op_range, ↓op_next, ↓op_call, ↓op_builtin, ↓g_tt, ↓g_ff, ↓g_tf, ↓g_ft, ↓g_tnt, ↓g_tnf, ↓g_fnt, ↓g_fnf, ↓mkT_getD, hpu]
  refine RestT.loopF (β := Nat) [(5, 5), (7, 7), (10, 20)] (fun i => [(5, .int .i64 (facE get d i)), (10, .int .i64 i)]) (fun _ => fun _ => none) (fun i => i ≤ n) (fun i => n - i) 0 (Nat.zero_le _) ?_ (HpLe.refl _) ?_
  · simp (maxSteps := 4000000) only [go_sem, ↓op_move, ↓op_assign, ↓op_pick, ↓op_alloc, ↓op_box, ↓op_build, ↓op_buildSlice, ↓op_load, ↓op_store, ↓op_nilCheck, ↓op_bin, ↓op_un, ↓op_convert, ↓op_makeFunc, ↓op_makeSlice, ↓op_slice, ↓op_fieldAddr, ↓op_field, ↓op_indexAddr, ↓op_index, ↓op_extract, ↓op_lookup, ↓op_mapUpdate, ↓op_makeMap, ↓op_range, ↓op_next, ↓op_call, ↓op_builtin, ↓g_tt, ↓g_ff, ↓g_tf, ↓g_ft, ↓g_tnt, ↓g_tnf, ↓g_fnt, ↓g_fnf, ↓mkT_getD]
    first | exact rfl | exact ⟨rfl, rfl⟩
  · intro ck i hck hi
    generalize hq0 : exC _ _ _ _ _ = gg
    by_cases hlt : i < n
    · have hd : decide ((i : Int) < (n : Int)) = true := by simp; omega
      have hg := hiv.2 i hlt
      by_cases hs : d < cell get i 0
      · have hd2 : decide (d < cell get i 0) = true := decide_eq_true hs
        rw [← hq0]
        clear hq0
        simp (maxSteps := 4000000) only [go_sem, ↓op_move, ↓op_assign, ↓op_pick, ↓op_alloc, ↓op_box, ↓op_build, ↓op_buildSlice, ↓op_load, ↓op_store, ↓op_nilCheck, ↓op_bin, ↓op_un, ↓op_convert, ↓op_makeFunc, ↓op_makeSlice, ↓op_slice, ↓op_fieldAddr, ↓op_field, ↓op_indexAddr, ↓op_index, ↓op_extract, ↓op_lookup, ↓op_mapUpdate, ↓op_makeMap, ↓op_range, ↓op_next, ↓op_call, ↓op_builtin, ↓g_tt, ↓g_ff, ↓g_tf, ↓g_ft, ↓g_tnt, ↓g_tnf, ↓g_fnt, ↓g_fnf, ↓mkT_getD, hg, hd, hd2, hpu]
        refine ⟨⟨by omega, by omega⟩, VEnt.of_eq ?_⟩
        rw [fac_stop hok hlt hs (by omega) (Nat.le_refl _)]
      · have hd2 : decide (d < cell get i 0) = false := decide_eq_false hs
        rw [← hq0]
        clear hq0
        simp (maxSteps := 4000000) only [go_sem, ↓op_move, ↓op_assign, ↓op_pick, ↓op_alloc, ↓op_box, ↓op_build, ↓op_buildSlice, ↓op_load, ↓op_store, ↓op_nilCheck, ↓op_bin, ↓op_un, ↓op_convert, ↓op_makeFunc, ↓op_makeSlice, ↓op_slice, ↓op_fieldAddr, ↓op_field, ↓op_indexAddr, ↓op_index, ↓op_extract, ↓op_lookup, ↓op_mapUpdate, ↓op_makeMap, ↓op_range, ↓op_next, ↓op_call, ↓op_builtin, ↓g_tt, ↓g_ff, ↓g_tf, ↓g_ft, ↓g_tnt, ↓g_tnf, ↓g_fnt, ↓g_fnf, ↓mkT_getD, hg, hd, hd2, hpu]
        refine ⟨⟨by omega, by omega⟩, inK_of (by omega) (by omega), i + 1, hlt, by omega, ⟨?_, rfl⟩, HpLe.none⟩
        unfold facE; rw [if_pos (by omega)]
    · have hd : decide ((i : Int) < (n : Int)) = false := by simp; omega
      obtain rfl : i = n := by omega
      rw [← hq0]
      clear hq0
      simp (maxSteps := 4000000) only [go_sem, ↓op_move, ↓op_assign, ↓op_pick, ↓op_alloc, ↓op_box, ↓op_build, ↓op_buildSlice, ↓op_load, ↓op_store, ↓op_nilCheck, ↓op_bin, ↓op_un, ↓op_convert, ↓op_makeFunc, ↓op_makeSlice, ↓op_slice, ↓op_fieldAddr, ↓op_field, ↓op_indexAddr, ↓op_index, ↓op_extract, ↓op_lookup, ↓op_mapUpdate, ↓op_makeMap, ↓op_range, ↓op_next, ↓op_call, ↓op_builtin, ↓g_tt, ↓g_ff, ↓g_tf, ↓g_ft, ↓g_tnt, ↓g_tnf, ↓g_fnt, ↓g_fnf, ↓mkT_getD, hd, hpu]
      exact VEnt.of_eq rfl

end Go.Fly.Tryz
end
section
/- Walls, tables: their checks; what walls screen. -/
set_option maxRecDepth 100000
set_option maxHeartbeats 2000000
namespace Go.Fly.Tryz
open Go

theorem tCheck_ok : Holds Proofs.Tryz.prog G0 51 wallOkC := by
  refine Holds.of_exC D51 Proofs.Tryz.func51 rfl foll (by kernel_rfl) (tab [(26, withinC), (28, firstC), (50, whenC), (73, nameC), (74, int1C (fun n => rng n 1 1000)), (75, int1C (fun n => rng n 0 1000)), (121, placeC (fun a _ _ _ => a)), (122, placeC (fun _ a _ _ => a)), (123, placeC (fun _ _ a _ => a)), (124, placeC (fun _ _ _ a => a)), (iceKey 1, iceC)]) (tab_ok ⟨tWithin_ok, tFirst_ok, tWhen_ok, dName_ok, tHigh_ok, tEcho_ok, tPl1_ok, tPl2_ok, tPl3_ok, tPl4_ok, ice_holds, trivial⟩) G0_ok fun k0 rl args hpu hpre => ?_
  unfold wallOkC at hpre ⊢
  split at hpre
  rotate_left
  · exact hpre.elim
  rename_i nm ax ay bx ky h ec
  obtain ⟨hn, hw⟩ := hpre
  have hw' := hw
  obtain ⟨w0, w1, w2, w3, w4, w5, w6, w7⟩ := hw
  have r1 := rng_zero.2 w1
  have r2 := rng_zero.2 w2
  have r3 := rng_zero.2 w3
  have r4 := rng_zero.2 w4
  have r5 := rng_zero.2 w6
  have r6 := rng_zero.2 w7
  have w5' : (decide (ax = bx) && decide (ay = ky)) = false := by
    cases hd : (decide (ax = bx) && decide (ay = ky))
    · rfl
    · simp at hd; exact absurd hd w5
  simp only [Proofs.Tryz.f51]
  rw [enter_mkT (Nat.le_of_ble_eq_true rfl)]
  simp (maxSteps := 4000000) only [go_sem, ↓op_move, ↓op_assign, ↓op_pick, ↓op_alloc, ↓op_box, ↓op_build, ↓op_buildSlice, ↓op_load, ↓op_store, ↓op_nilCheck, ↓op_bin, ↓op_un, ↓op_convert, ↓op_makeFunc, ↓op_makeSlice, ↓op_slice, ↓op_fieldAddr, ↓op_field, ↓op_indexAddr, ↓op_index, ↓op_extract, ↓op_lookup, ↓op_mapUpdate, ↓op_makeMap, ↓op_range, ↓op_next, ↓op_call, ↓op_builtin, ↓g_tt, ↓g_ff, ↓g_tf, ↓g_ft, ↓g_tnt, ↓g_tnf, ↓g_fnt, ↓g_fnf, ↓mkT_getD, w0]
  refine ⟨hn, ?_⟩
  refine RestT.loopF (β := Nat) [(2, 2), (4, 5), (11, 26)] (fun i => [(11, .int .i64 i)]) (fun _ => fun _ => none) (fun i => i ≤ 4) (fun i => 4 - i) 0 (by decide) ?_ HpLe.none ?_
  · simp (maxSteps := 4000000) only [go_sem, ↓op_move, ↓op_assign, ↓op_pick, ↓op_alloc, ↓op_box, ↓op_build, ↓op_buildSlice, ↓op_load, ↓op_store, ↓op_nilCheck, ↓op_bin, ↓op_un, ↓op_convert, ↓op_makeFunc, ↓op_makeSlice, ↓op_slice, ↓op_fieldAddr, ↓op_field, ↓op_indexAddr, ↓op_index, ↓op_extract, ↓op_lookup, ↓op_mapUpdate, ↓op_makeMap, ↓op_range, ↓op_next, ↓op_call, ↓op_builtin, ↓g_tt, ↓g_ff, ↓g_tf, ↓g_ft, ↓g_tnt, ↓g_tnf, ↓g_fnt, ↓g_fnf, ↓mkT_getD]
    try exact rfl
  · intro ck i hck hi
    generalize hq0 : exC _ _ _ _ _ = gg
    have hi5 : i = 0 ∨ i = 1 ∨ i = 2 ∨ i = 3 ∨ i = 4 := by omega
    rcases hi5 with rfl | rfl | rfl | rfl | rfl
    all_goals
      rw [← hq0]
      clear hq0
      simp (maxSteps := 4000000) only [go_sem, ↓op_move, ↓op_assign, ↓op_pick, ↓op_alloc, ↓op_box, ↓op_build, ↓op_buildSlice, ↓op_load, ↓op_store, ↓op_nilCheck, ↓op_bin, ↓op_un, ↓op_convert, ↓op_makeFunc, ↓op_makeSlice, ↓op_slice, ↓op_fieldAddr, ↓op_field, ↓op_indexAddr, ↓op_index, ↓op_extract, ↓op_lookup, ↓op_mapUpdate, ↓op_makeMap, ↓op_range, ↓op_next, ↓op_call, ↓op_builtin, ↓g_tt, ↓g_ff, ↓g_tf, ↓g_ft, ↓g_tnt, ↓g_tnf, ↓g_fnt, ↓g_fnf, ↓mkT_getD, r1, r2, r3, r4, r5, r6, w5']
    · exact ⟨inK_of (by decide) (by decide), 1, by decide, by decide, rfl, HpLe.none⟩
    · exact ⟨inK_of (by decide) (by decide), 2, by decide, by decide, rfl, HpLe.none⟩
    · exact ⟨inK_of (by decide) (by decide), 3, by decide, by decide, rfl, HpLe.none⟩
    · exact ⟨inK_of (by decide) (by decide), 4, by decide, by decide, rfl, HpLe.none⟩
    · exact VEnt.of_eq rfl

theorem tWalls_ok : Holds Proofs.Tryz.prog G0 29 wallsOkC := by
  refine Holds.of_exC D29 Proofs.Tryz.func29 rfl foll (by kernel_rfl) (tab [(28, firstC), (50, whenC), (51, wallOkC)]) (tab_ok ⟨tFirst_ok, tWhen_ok, tCheck_ok, trivial⟩) G0_ok fun k0 rl args hpu hpre => ?_
  unfold wallsOkC at hpre ⊢
  split at hpre
  rotate_left
  · exact hpre.elim
  rename_i n sz get
  obtain ⟨rfl, hwl, hok⟩ := hpre
  have hpu := hwl.pu
  have hc := hok.cnt
  have hd0 : decide ((32 : Int) < (n : Int)) = false := decide_eq_false (by omega)
  simp only [Proofs.Tryz.f29]
  rw [enter_mkT (Nat.le_of_ble_eq_true rfl)]
  simp (maxSteps := 4000000) only [go_sem, ↓op_move, ↓op_assign, ↓op_pick, ↓op_alloc, ↓op_box, ↓op_build, ↓op_buildSlice, ↓op_load, ↓op_store, ↓op_nilCheck, ↓op_bin, ↓op_un, ↓op_convert, ↓op_makeFunc, ↓op_makeSlice, ↓op_slice, ↓op_fieldAddr, ↓op_field, ↓op_indexAddr, ↓op_index, ↓op_extract, ↓op_lookup, ↓op_mapUpdate, ↓op_makeMap, ↓op_range, ↓op_next, ↓op_call, ↓op_builtin, ↓g_tt, ↓g_ff, ↓g_tf, ↓g_ft, ↓g_tnt, ↓g_tnf, ↓g_fnt, ↓g_fnf, ↓mkT_getD, hpu, hd0]
  refine ⟨fun L o h => (by cases h), fun L => ?_⟩
  refine RestT.loopF (β := Nat × Array MapEntry × Nat) [(2, 2), (5, 6), (13, 32)] (fun b => [(13, .int .i64 b.1)]) (fun b => updH (fun _ => none) (0, L) (.raw (.map b.2.1 b.2.2))) (fun b => b.1 ≤ n ∧ ∀ e ∈ b.2.1.toList, ∃ j, j < b.1 ∧ e.key = .string ⟨(wName get j).toArray⟩) (fun b => n - b.1) (0, #[], 0) ⟨Nat.zero_le _, fun e he => (by simp at he)⟩ ?_ (HpLe.refl _) ?_
  · simp (maxSteps := 4000000) only [go_sem, ↓op_move, ↓op_assign, ↓op_pick, ↓op_alloc, ↓op_box, ↓op_build, ↓op_buildSlice, ↓op_load, ↓op_store, ↓op_nilCheck, ↓op_bin, ↓op_un, ↓op_convert, ↓op_makeFunc, ↓op_makeSlice, ↓op_slice, ↓op_fieldAddr, ↓op_field, ↓op_indexAddr, ↓op_index, ↓op_extract, ↓op_lookup, ↓op_mapUpdate, ↓op_makeMap, ↓op_range, ↓op_next, ↓op_call, ↓op_builtin, ↓g_tt, ↓g_ff, ↓g_tf, ↓g_ft, ↓g_tnt, ↓g_tnf, ↓g_fnt, ↓g_fnf, ↓mkT_getD]
    try exact rfl
  · intro ck b hck hI
    generalize hq0 : exC _ _ _ _ _ = gg
    obtain ⟨i, es, c⟩ := b
    obtain ⟨hi, hk⟩ := hI
    have hi : i ≤ n := hi
    have hk : ∀ e ∈ es.toList, ∃ j, j < i ∧ e.key = .string ⟨(wName get j).toArray⟩ := hk
    by_cases hlt : i < n
    · have hd : decide ((i : Int) < (n : Int)) = true := by simp; omega
      obtain ⟨hg, hl⟩ := hwl.2 i hlt
      have hw := hok.wall i hlt
      have hf := findNow_none (s := wName get i) (l := es.toList) (fun e he => by
        obtain ⟨j, hj, hkey⟩ := hk e he
        exact ⟨_, hkey, hok.two i j hlt hj⟩) 0
      rw [← hq0]
      clear hq0
      have e9 : firstL [0, err false 9] = 0 := rfl
      simp (maxSteps := 4000000) only [go_sem, ↓op_move, ↓op_assign, ↓op_pick, ↓op_alloc, ↓op_box, ↓op_build, ↓op_buildSlice, ↓op_load, ↓op_store, ↓op_nilCheck, ↓op_bin, ↓op_un, ↓op_convert, ↓op_makeFunc, ↓op_makeSlice, ↓op_slice, ↓op_fieldAddr, ↓op_field, ↓op_indexAddr, ↓op_index, ↓op_extract, ↓op_lookup, ↓op_mapUpdate, ↓op_makeMap, ↓op_range, ↓op_next, ↓op_call, ↓op_builtin, ↓g_tt, ↓g_ff, ↓g_tf, ↓g_ft, ↓g_tnt, ↓g_tnf, ↓g_fnt, ↓g_fnf, ↓mkT_getD, hg, hd, hpu, hf, e9]
      refine ⟨⟨by omega, by omega⟩, ⟨hl, hw⟩, inK_of (by omega) (by omega), (i + 1, es.push ⟨.string ⟨(wName get i).toArray⟩, .bool true, c⟩, c + 1), ⟨hlt, fun e he => ?_⟩, by show n - (i + 1) < n - i; omega, rfl, ?_⟩
      · simp only [Array.toList_push, List.mem_append, List.mem_singleton] at he
        rcases he with he | rfl
        · obtain ⟨j, hj, hkey⟩ := hk e he
          exact ⟨j, by show j < i + 1; omega, hkey⟩
        · exact ⟨i, Nat.lt_succ_self i, rfl⟩
      · exact HpLe.upd HpLe.none ⟨_, updH_same _ _ _, ObjLe.refl _⟩
    · have hd : decide ((i : Int) < (n : Int)) = false := by simp; omega
      rw [← hq0]
      clear hq0
      simp (maxSteps := 4000000) only [go_sem, ↓op_move, ↓op_assign, ↓op_pick, ↓op_alloc, ↓op_box, ↓op_build, ↓op_buildSlice, ↓op_load, ↓op_store, ↓op_nilCheck, ↓op_bin, ↓op_un, ↓op_convert, ↓op_makeFunc, ↓op_makeSlice, ↓op_slice, ↓op_fieldAddr, ↓op_field, ↓op_indexAddr, ↓op_index, ↓op_extract, ↓op_lookup, ↓op_mapUpdate, ↓op_makeMap, ↓op_range, ↓op_next, ↓op_call, ↓op_builtin, ↓g_tt, ↓g_ff, ↓g_tf, ↓g_ft, ↓g_tnt, ↓g_tnf, ↓g_fnt, ↓g_fnf, ↓mkT_getD, hd, hpu]
      exact VEnt.of_eq rfl

theorem tTable_ok : Holds Proofs.Tryz.prog G0 61 tableOkC := by
  refine Holds.of_exC D61 Proofs.Tryz.func61 rfl foll (by kernel_rfl) (tab [(26, withinC), (28, firstC), (50, whenC)]) (tab_ok ⟨tWithin_ok, tFirst_ok, tWhen_ok, trivial⟩) G0_ok fun k0 rl args hpu hpre => ?_
  unfold tableOkC at hpre ⊢
  split at hpre
  rotate_left
  · exact hpre.elim
  rename_i n sz get
  obtain ⟨rfl, hiv, hok⟩ := hpre
  have hpu := hiv.pu
  have hc := hok.cnt
  have e1 : decide ((n : Int) = 0) = false := decide_eq_false (by omega)
  have e2 : decide ((16 : Int) < (n : Int)) = false := decide_eq_false (by omega)
  have e3 : firstL [err false 12, err false 5] = 0 := rfl
  obtain ⟨pf, hpf⟩ : ∃ pf : Nat → Int, ∀ i, pf i = if i = 0 then 0 else cell get (i - 1) 0 := ⟨_, fun _ => rfl⟩
  obtain ⟨pc, hpc⟩ : ∃ pc : Nat → Int, ∀ i, pc i = if i = 0 then 1000 else cell get (i - 1) 1 := ⟨_, fun _ => rfl⟩
  have hpf0 : pf 0 = 0 := hpf 0
  have hpc0 : pc 0 = 1000 := hpc 0
  have hpfs : ∀ i, pf (i + 1) = cell get i 0 := fun i => by rw [hpf, if_neg (by omega)]; rfl
  have hpcs : ∀ i, pc (i + 1) = cell get i 1 := fun i => by rw [hpc, if_neg (by omega)]; rfl
  simp only [Proofs.Tryz.f61]
  rw [enter_mkT (Nat.le_of_ble_eq_true rfl)]
  simp (maxSteps := 4000000) only [go_sem, ↓op_move, ↓op_assign, ↓op_pick, ↓op_alloc, ↓op_box, ↓op_build, ↓op_buildSlice, ↓op_load, ↓op_store, ↓op_nilCheck, ↓op_bin, ↓op_un, ↓op_convert, ↓op_makeFunc, ↓op_makeSlice, ↓op_slice, ↓op_fieldAddr, ↓op_field, ↓op_indexAddr, ↓op_index, ↓op_extract, ↓op_lookup, ↓op_mapUpdate, ↓op_makeMap, ↓op_range, ↓op_next, ↓op_call, ↓op_builtin, ↓g_tt, ↓g_ff, ↓g_tf, ↓g_ft, ↓g_tnt, ↓g_tnf, ↓g_fnt, ↓g_fnf, ↓mkT_getD, hpu, e1, e2, e3]
  refine RestT.loopF (β := Nat) [(2, 2), (6, 7), (24, 53)] (fun i => [(24, .int .i64 i)]) (fun i => updH (fun _ => none) (5, 4) (.cells [.int .i64 (pf i), .int .i64 (pc i)])) (fun i => i ≤ n) (fun i => n - i) 0 (Nat.zero_le _) ?_
    (HpLe.upd HpLe.none ⟨_, updH_same _ _ _, by rw [hpf0, hpc0]; exact ObjLe.refl _⟩) ?_
  · simp (maxSteps := 4000000) only [go_sem, ↓op_move, ↓op_assign, ↓op_pick, ↓op_alloc, ↓op_box, ↓op_build, ↓op_buildSlice, ↓op_load, ↓op_store, ↓op_nilCheck, ↓op_bin, ↓op_un, ↓op_convert, ↓op_makeFunc, ↓op_makeSlice, ↓op_slice, ↓op_fieldAddr, ↓op_field, ↓op_indexAddr, ↓op_index, ↓op_extract, ↓op_lookup, ↓op_mapUpdate, ↓op_makeMap, ↓op_range, ↓op_next, ↓op_call, ↓op_builtin, ↓g_tt, ↓g_ff, ↓g_tf, ↓g_ft, ↓g_tnt, ↓g_tnf, ↓g_fnt, ↓g_fnf, ↓mkT_getD]
    try exact rfl
  · intro ck i hck hi
    generalize hq0 : exC _ _ _ _ _ = gg
    by_cases hlt : i < n
    · have hd : decide ((i : Int) < (n : Int)) = true := by simp; omega
      have hg := hiv.2 i hlt
      have hf := hok.from_ i hlt
      have hf2 := hok.fac i hlt
      have r1 := rng_zero.2 hf
      have r2 := rng_zero.2 hf2
      have q1 : decide (cell get i 0 ≤ pf i) = false := decide_eq_false (by
        cases i with
        | zero => rw [hpf0]; omega
        | succ k => rw [hpfs]; have := hok.up k hlt; omega)
      have q2 : decide (pc i < cell get i 1) = false := decide_eq_false (by
        cases i with
        | zero => rw [hpc0]; omega
        | succ k => rw [hpcs]; have := hok.down k hlt; omega)
      rw [← hq0]
      clear hq0
      have e9 : firstL [0, 0, err false 11] = 0 := rfl
      simp (maxSteps := 4000000) only [go_sem, ↓op_move, ↓op_assign, ↓op_pick, ↓op_alloc, ↓op_box, ↓op_build, ↓op_buildSlice, ↓op_load, ↓op_store, ↓op_nilCheck, ↓op_bin, ↓op_un, ↓op_convert, ↓op_makeFunc, ↓op_makeSlice, ↓op_slice, ↓op_fieldAddr, ↓op_field, ↓op_indexAddr, ↓op_index, ↓op_extract, ↓op_lookup, ↓op_mapUpdate, ↓op_makeMap, ↓op_range, ↓op_next, ↓op_call, ↓op_builtin, ↓g_tt, ↓g_ff, ↓g_tf, ↓g_ft, ↓g_tnt, ↓g_tnf, ↓g_fnt, ↓g_fnf, ↓mkT_getD, hg, hd, hpu, r1, r2, q1, q2, e9]
      exact ⟨⟨by omega, by omega⟩, inK_of (by omega) (by omega), i + 1, hlt, by omega, rfl, HpLe.upd HpLe.none ⟨_, updH_same _ _ _, by rw [hpfs, hpcs]; exact ObjLe.refl _⟩⟩
    · have hd : decide ((i : Int) < (n : Int)) = false := by simp; omega
      rw [← hq0]
      clear hq0
      simp (maxSteps := 4000000) only [go_sem, ↓op_move, ↓op_assign, ↓op_pick, ↓op_alloc, ↓op_box, ↓op_build, ↓op_buildSlice, ↓op_load, ↓op_store, ↓op_nilCheck, ↓op_bin, ↓op_un, ↓op_convert, ↓op_makeFunc, ↓op_makeSlice, ↓op_slice, ↓op_fieldAddr, ↓op_field, ↓op_indexAddr, ↓op_index, ↓op_extract, ↓op_lookup, ↓op_mapUpdate, ↓op_makeMap, ↓op_range, ↓op_next, ↓op_call, ↓op_builtin, ↓g_tt, ↓g_ff, ↓g_tf, ↓g_ft, ↓g_tnt, ↓g_tnf, ↓g_fnt, ↓g_fnf, ↓mkT_getD, hd, hpu]
      exact VEnt.of_eq rfl

theorem tHeard_ok : Holds Proofs.Tryz.prog G0 36 heardOkC := by
  refine Holds.of_exC D36 Proofs.Tryz.func36 rfl foll (by kernel_rfl) (tab [(26, withinC), (28, firstC), (29, wallsOkC), (30, spotC), (61, tableOkC), (iceKey 6, iceC)]) (tab_ok ⟨tWithin_ok, tFirst_ok, tWalls_ok, tSpot_ok, tTable_ok, ice_holds, trivial⟩) G0_ok fun k0 rl args hpu hpre => ?_
  unfold heardOkC at hpre ⊢
  split at hpre
  rotate_left
  · exact hpre.elim
  rename_i n sz get nt st gt sx sy sz' rx ry rz e
  obtain ⟨rfl, hwl, hok, rfl, hiv, hok2, hs, hr, he, he2⟩ := hpre
  have hpu := hwl.pu
  have hpu2 := hiv.pu
  have z1 := spotE_zero.2 hs
  have z2 := spotE_zero.2 hr
  have z3 : rng e 0 10000000000000 = 0 := rng_zero.2 ⟨he, he2⟩
  simp only [Proofs.Tryz.f36]
  rw [enter_mkT (Nat.le_of_ble_eq_true rfl)]
  simp (maxSteps := 4000000) only [go_sem, ↓op_move, ↓op_assign, ↓op_pick, ↓op_alloc, ↓op_box, ↓op_build, ↓op_buildSlice, ↓op_load, ↓op_store, ↓op_nilCheck, ↓op_bin, ↓op_un, ↓op_convert, ↓op_makeFunc, ↓op_makeSlice, ↓op_slice, ↓op_fieldAddr, ↓op_field, ↓op_indexAddr, ↓op_index, ↓op_extract, ↓op_lookup, ↓op_mapUpdate, ↓op_makeMap, ↓op_range, ↓op_next, ↓op_call, ↓op_builtin, ↓g_tt, ↓g_ff, ↓g_tf, ↓g_ft, ↓g_tnt, ↓g_tnf, ↓g_fnt, ↓g_fnf, ↓mkT_getD, hpu, hpu2, z1, z2, z3]
  exact ⟨⟨hwl, hok⟩, ⟨hiv, hok2⟩, VEnt.of_eq rfl⟩

theorem tScreen_ok : Holds Proofs.Tryz.prog G0 37 screenC := by
  refine Holds.of_exC D37 Proofs.Tryz.func37 rfl foll (by kernel_rfl) (tab [(62, depthsC), (63, timesC), (64, factorC), (iceKey 6, iceC)]) (tab_ok ⟨tDepths_ok, tTimes_ok, tFactor_ok, ice_holds, trivial⟩) G0_ok fun k0 rl args hpu hpre => ?_
  unfold screenC at hpre ⊢
  split at hpre
  rotate_left
  · exact hpre.elim
  rename_i n sz get nt st gt sx sy sz' rx ry rz e
  obtain ⟨rfl, hwl, hok, rfl, hiv, hok2, hs, hr, he, he2⟩ := hpre
  have hpu := hwl.pu
  have hpu2 := hiv.pu
  have hf := fac_bd hok2 (sumI (wDepth get sx sy sz' rx ry rz) n) (Nat.le_refl nt)
  simp only [Proofs.Tryz.f37]
  rw [enter_mkT (Nat.le_of_ble_eq_true rfl)]
  simp (maxSteps := 4000000) only [go_sem, ↓op_move, ↓op_assign, ↓op_pick, ↓op_alloc, ↓op_box, ↓op_build, ↓op_buildSlice, ↓op_load, ↓op_store, ↓op_nilCheck, ↓op_bin, ↓op_un, ↓op_convert, ↓op_makeFunc, ↓op_makeSlice, ↓op_slice, ↓op_fieldAddr, ↓op_field, ↓op_indexAddr, ↓op_index, ↓op_extract, ↓op_lookup, ↓op_mapUpdate, ↓op_makeMap, ↓op_range, ↓op_next, ↓op_call, ↓op_builtin, ↓g_tt, ↓g_ff, ↓g_tf, ↓g_ft, ↓g_tnt, ↓g_tnf, ↓g_fnt, ↓g_fnf, ↓mkT_getD, hpu, hpu2]
  exact ⟨⟨hwl, hok, hs, hr⟩, ⟨hiv, hok2⟩, ⟨he, he2, hf⟩, VEnt.of_eq rfl⟩

theorem tScreen2_ok : Holds Proofs.Tryz.prog G0 14 screen2C := by
  refine Holds.of_exC D14 Proofs.Tryz.func14 rfl foll (by kernel_rfl) (tab [(36, heardOkC), (37, screenC), (iceKey 6, iceC)]) (tab_ok ⟨tHeard_ok, tScreen_ok, ice_holds, trivial⟩) G0_ok fun k0 rl args hpu hpre => ?_
  unfold screen2C at hpre ⊢
  split at hpre
  rotate_left
  · exact hpre.elim
  rename_i n sz get nt st gt sx sy sz' rx ry rz e
  obtain ⟨rfl, hwl, hok, rfl, hiv, hok2, hs, hr, he, he2⟩ := hpre
  have hpu := hwl.pu
  have hpu2 := hiv.pu
  have hc : (0 : Int) = 0 := rfl
  simp only [Proofs.Tryz.f14]
  rw [enter_mkT (Nat.le_of_ble_eq_true rfl)]
  simp (maxSteps := 4000000) only [go_sem, ↓op_move, ↓op_assign, ↓op_pick, ↓op_alloc, ↓op_box, ↓op_build, ↓op_buildSlice, ↓op_load, ↓op_store, ↓op_nilCheck, ↓op_bin, ↓op_un, ↓op_convert, ↓op_makeFunc, ↓op_makeSlice, ↓op_slice, ↓op_fieldAddr, ↓op_field, ↓op_indexAddr, ↓op_index, ↓op_extract, ↓op_lookup, ↓op_mapUpdate, ↓op_makeMap, ↓op_range, ↓op_next, ↓op_call, ↓op_builtin, ↓g_tt, ↓g_ff, ↓g_tf, ↓g_ft, ↓g_tnt, ↓g_tnf, ↓g_fnt, ↓g_fnf, ↓mkT_getD, hpu, hpu2]
  exact ⟨⟨hwl, hok, hiv, hok2, hs, hr, he, he2⟩, ⟨hwl, hok, hiv, hok2, hs, hr, he, he2⟩, VEnt.of_eq rfl⟩
end Go.Fly.Tryz
end
