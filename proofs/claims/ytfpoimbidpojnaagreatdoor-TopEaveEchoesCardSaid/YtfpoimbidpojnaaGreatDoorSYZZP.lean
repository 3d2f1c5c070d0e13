/- Part of a proof: an evaluator of the model's code by abstract values, and plain laws for it. No conditions. -/
import Derived.Test.YtfpoimbidpojnaaGreatDoorSYZED
import Derived.Test.YtfpoimbidpojnaaGreatDoorSYZEE
import Derived.Test.YtfpoimbidpojnaaGreatDoorAV
import Derived.Test.YtfpoimbidpojnaaGreatDoorSYZZA
import Derived.Test.YtfpoimbidpojnaaGreatDoorAW
set_option linter.unusedSimpArgs false
set_option linter.unusedVariables false
section
/- Walls that reflect: images. -/
set_option maxRecDepth 100000
set_option maxHeartbeats 4000000
namespace Go.Fly.Tryz
open Go

theorem tdiv_bd {a k : Int} {g : Nat} (h : -k ≤ a ∧ a ≤ k) : -k ≤ a.tdiv g ∧ a.tdiv g ≤ k := by
  have e := Int.natAbs_tdiv a g
  have h3 : (a.tdiv g).natAbs ≤ a.natAbs := by rw [e]; exact Nat.div_le_self _ _
  omega
theorem tEven_ok : Holds Proofs.Tryz.prog G0 54 wevenC := by
  refine Holds.of_exC D54 Proofs.Tryz.func54 rfl foll (by kernel_rfl) (tab [(76, absC), (iceKey 1, iceC)]) (tab_ok ⟨tAbs_ok, ice_holds, trivial⟩) G0_ok fun k0 rl args hpu hpre => ?_
  unfold wevenC at hpre ⊢
  split at hpre
  rotate_left
  · exact hpre.elim
  rename_i nm ax ay bx ky h ec
  have hwo := hpre
  obtain ⟨w0, w1, w2, w3, w4, w5, w6, w7⟩ := hpre
  have fin : ∀ {c : Bool}, c = decide (evenP ax ay bx ky) → VEnt (.bool (decide (evenP ax ay bx ky))) (.bool c) := fun h => by rw [h]; exact VEnt.refl _
  by_cases q1 : absE (bx - ax) = absE (ky - ay)
  · have d1 : decide (absE (bx - ax) = absE (ky - ay)) = true := decide_eq_true q1
    have d0 : decide (evenP ax ay bx ky) = true := decide_eq_true (.inl q1)
    simp only [Proofs.Tryz.f54]
    rw [enter_mkT (Nat.le_of_ble_eq_true rfl)]
    simp (maxSteps := 4000000) only [go_sem, ↓op_move, ↓op_assign, ↓op_pick, ↓op_alloc, ↓op_box, ↓op_build, ↓op_buildSlice, ↓op_load, ↓op_store, ↓op_nilCheck, ↓op_bin, ↓op_un, ↓op_convert, ↓op_makeFunc, ↓op_makeSlice, ↓op_slice, ↓op_fieldAddr, ↓op_field, ↓op_indexAddr, ↓op_index, ↓op_extract, ↓op_lookup, ↓op_mapUpdate, ↓op_makeMap, ↓op_range, ↓op_next, ↓op_call, ↓op_builtin, ↓g_tt, ↓g_ff, ↓g_tf, ↓g_ft, ↓g_tnt, ↓g_tnf, ↓g_fnt, ↓g_fnf, ↓mkT_getD, d1, d0]
    (repeat' first | exact inK_of (by omega) (by omega) | exact VEnt.refl _ | exact ⟨by omega, by omega⟩ | refine ⟨?_, ?_⟩)
  · have d1 : decide (absE (bx - ax) = absE (ky - ay)) = false := decide_eq_false q1
    by_cases q2 : absE (bx - ax) = 0
    · have d2 : decide (absE (bx - ax) = 0) = true := decide_eq_true q2
      have d0 : decide (evenP ax ay bx ky) = true := decide_eq_true (.inr (.inl q2))
      simp only [Proofs.Tryz.f54]
      rw [enter_mkT (Nat.le_of_ble_eq_true rfl)]
      simp (maxSteps := 4000000) only [go_sem, ↓op_move, ↓op_assign, ↓op_pick, ↓op_alloc, ↓op_box, ↓op_build, ↓op_buildSlice, ↓op_load, ↓op_store, ↓op_nilCheck, ↓op_bin, ↓op_un, ↓op_convert, ↓op_makeFunc, ↓op_makeSlice, ↓op_slice, ↓op_fieldAddr, ↓op_field, ↓op_indexAddr, ↓op_index, ↓op_extract, ↓op_lookup, ↓op_mapUpdate, ↓op_makeMap, ↓op_range, ↓op_next, ↓op_call, ↓op_builtin, ↓g_tt, ↓g_ff, ↓g_tf, ↓g_ft, ↓g_tnt, ↓g_tnf, ↓g_fnt, ↓g_fnf, ↓mkT_getD, d1, d2, d0]
      (repeat' first | exact inK_of (by omega) (by omega) | exact VEnt.refl _ | exact ⟨by omega, by omega⟩ | refine ⟨?_, ?_⟩)
    · have d2 : decide (absE (bx - ax) = 0) = false := decide_eq_false q2
      by_cases q3 : absE (ky - ay) = 0
      · have d3 : decide (absE (ky - ay) = 0) = true := decide_eq_true q3
        have d0 : decide (evenP ax ay bx ky) = true := decide_eq_true (.inr (.inr q3))
        simp only [Proofs.Tryz.f54]
        rw [enter_mkT (Nat.le_of_ble_eq_true rfl)]
        simp (maxSteps := 4000000) only [go_sem, ↓op_move, ↓op_assign, ↓op_pick, ↓op_alloc, ↓op_box, ↓op_build, ↓op_buildSlice, ↓op_load, ↓op_store, ↓op_nilCheck, ↓op_bin, ↓op_un, ↓op_convert, ↓op_makeFunc, ↓op_makeSlice, ↓op_slice, ↓op_fieldAddr, ↓op_field, ↓op_indexAddr, ↓op_index, ↓op_extract, ↓op_lookup, ↓op_mapUpdate, ↓op_makeMap, ↓op_range, ↓op_next, ↓op_call, ↓op_builtin, ↓g_tt, ↓g_ff, ↓g_tf, ↓g_ft, ↓g_tnt, ↓g_tnf, ↓g_fnt, ↓g_fnf, ↓mkT_getD, d1, d2, d3, d0]
        (repeat' first | exact inK_of (by omega) (by omega) | exact VEnt.refl _ | exact ⟨by omega, by omega⟩ | refine ⟨?_, ?_⟩)
      · have d3 : decide (absE (ky - ay) = 0) = false := decide_eq_false q3
        have d0 : decide (evenP ax ay bx ky) = false := decide_eq_false fun h => h.elim q1 fun h => h.elim q2 q3
        simp only [Proofs.Tryz.f54]
        rw [enter_mkT (Nat.le_of_ble_eq_true rfl)]
        simp (maxSteps := 4000000) only [go_sem, ↓op_move, ↓op_assign, ↓op_pick, ↓op_alloc, ↓op_box, ↓op_build, ↓op_buildSlice, ↓op_load, ↓op_store, ↓op_nilCheck, ↓op_bin, ↓op_un, ↓op_convert, ↓op_makeFunc, ↓op_makeSlice, ↓op_slice, ↓op_fieldAddr, ↓op_field, ↓op_indexAddr, ↓op_index, ↓op_extract, ↓op_lookup, ↓op_mapUpdate, ↓op_makeMap, ↓op_range, ↓op_next, ↓op_call, ↓op_builtin, ↓g_tt, ↓g_ff, ↓g_tf, ↓g_ft, ↓g_tnt, ↓g_tnf, ↓g_fnt, ↓g_fnf, ↓mkT_getD, d1, d2, d3, d0]
        (repeat' first | exact inK_of (by omega) (by omega) | exact VEnt.refl _ | exact ⟨by omega, by omega⟩ | refine ⟨?_, ?_⟩)

theorem tImg_ok : Holds Proofs.Tryz.prog G0 79 wimgC := by
  refine Holds.of_exC D79 Proofs.Tryz.func79 rfl foll (by kernel_rfl) (tab [(iceKey 2, iceC)]) (tab_ok ⟨ice_holds, trivial⟩) G0_ok fun k0 rl args hpu hpre => ?_
  unfold wimgC at hpre ⊢
  split at hpre
  rotate_left
  · exact hpre.elim
  rename_i nm ax ay bx ky h ec sx sy sz
  obtain ⟨⟨w0, w1, w2, w3, w4, w5, w6, w7⟩, s1, s2, s3⟩ := hpre
  by_cases q1 : bx - ax = 0
  · have d1 : decide (bx - ax = 0) = true := decide_eq_true q1
    have e1 : imgX ax ay bx ky sx sy = 2 * ax - sx := by unfold imgX; rw [if_pos q1]
    have e2 : imgY ax ay bx ky sx sy = sy := by unfold imgY; rw [if_pos q1]
    simp only [Proofs.Tryz.f79]
    rw [enter_mkT (Nat.le_of_ble_eq_true rfl)]
    simp (maxSteps := 4000000) only [go_sem, ↓op_move, ↓op_assign, ↓op_pick, ↓op_alloc, ↓op_box, ↓op_build, ↓op_buildSlice, ↓op_load, ↓op_store, ↓op_nilCheck, ↓op_bin, ↓op_un, ↓op_convert, ↓op_makeFunc, ↓op_makeSlice, ↓op_slice, ↓op_fieldAddr, ↓op_field, ↓op_indexAddr, ↓op_index, ↓op_extract, ↓op_lookup, ↓op_mapUpdate, ↓op_makeMap, ↓op_range, ↓op_next, ↓op_call, ↓op_builtin, ↓g_tt, ↓g_ff, ↓g_tf, ↓g_ft, ↓g_tnt, ↓g_tnf, ↓g_fnt, ↓g_fnf, ↓mkT_getD, d1, e1, e2]
    (repeat' first | exact inK_of (by omega) (by omega) | exact VEnt.refl _ | exact VEnt.of_eq rfl | exact ⟨by omega, by omega⟩ | refine ⟨?_, ?_⟩)
  · have d1 : decide (bx - ax = 0) = false := decide_eq_false q1
    by_cases q2 : ky - ay = 0
    · have d2 : decide (ky - ay = 0) = true := decide_eq_true q2
      have e1 : imgX ax ay bx ky sx sy = sx := by unfold imgX; rw [if_neg q1, if_pos q2]
      have e2 : imgY ax ay bx ky sx sy = 2 * ay - sy := by unfold imgY; rw [if_neg q1, if_pos q2]
      simp only [Proofs.Tryz.f79]
      rw [enter_mkT (Nat.le_of_ble_eq_true rfl)]
      simp (maxSteps := 4000000) only [go_sem, ↓op_move, ↓op_assign, ↓op_pick, ↓op_alloc, ↓op_box, ↓op_build, ↓op_buildSlice, ↓op_load, ↓op_store, ↓op_nilCheck, ↓op_bin, ↓op_un, ↓op_convert, ↓op_makeFunc, ↓op_makeSlice, ↓op_slice, ↓op_fieldAddr, ↓op_field, ↓op_indexAddr, ↓op_index, ↓op_extract, ↓op_lookup, ↓op_mapUpdate, ↓op_makeMap, ↓op_range, ↓op_next, ↓op_call, ↓op_builtin, ↓g_tt, ↓g_ff, ↓g_tf, ↓g_ft, ↓g_tnt, ↓g_tnf, ↓g_fnt, ↓g_fnf, ↓mkT_getD, d1, d2, e1, e2]
      (repeat' first | exact inK_of (by omega) (by omega) | exact VEnt.refl _ | exact VEnt.of_eq rfl | exact ⟨by omega, by omega⟩ | refine ⟨?_, ?_⟩)
    · have d2 : decide (ky - ay = 0) = false := decide_eq_false q2
      by_cases q3 : bx - ax = ky - ay
      · have d3 : decide (bx - ax = ky - ay) = true := decide_eq_true q3
        have e1 : imgX ax ay bx ky sx sy = ax + sy - ay := by unfold imgX; rw [if_neg q1, if_neg q2, if_pos q3]
        have e2 : imgY ax ay bx ky sx sy = ay + sx - ax := by unfold imgY; rw [if_neg q1, if_neg q2, if_pos q3]
        simp only [Proofs.Tryz.f79]
        rw [enter_mkT (Nat.le_of_ble_eq_true rfl)]
        simp (maxSteps := 4000000) only [go_sem, ↓op_move, ↓op_assign, ↓op_pick, ↓op_alloc, ↓op_box, ↓op_build, ↓op_buildSlice, ↓op_load, ↓op_store, ↓op_nilCheck, ↓op_bin, ↓op_un, ↓op_convert, ↓op_makeFunc, ↓op_makeSlice, ↓op_slice, ↓op_fieldAddr, ↓op_field, ↓op_indexAddr, ↓op_index, ↓op_extract, ↓op_lookup, ↓op_mapUpdate, ↓op_makeMap, ↓op_range, ↓op_next, ↓op_call, ↓op_builtin, ↓g_tt, ↓g_ff, ↓g_tf, ↓g_ft, ↓g_tnt, ↓g_tnf, ↓g_fnt, ↓g_fnf, ↓mkT_getD, d1, d2, d3, e1, e2]
        (repeat' first | exact inK_of (by omega) (by omega) | exact VEnt.refl _ | exact VEnt.of_eq rfl | exact ⟨by omega, by omega⟩ | refine ⟨?_, ?_⟩)
      · have d3 : decide (bx - ax = ky - ay) = false := decide_eq_false q3
        have e1 : imgX ax ay bx ky sx sy = ax - (sy - ay) := by unfold imgX; rw [if_neg q1, if_neg q2, if_neg q3]
        have e2 : imgY ax ay bx ky sx sy = ay - (sx - ax) := by unfold imgY; rw [if_neg q1, if_neg q2, if_neg q3]
        simp only [Proofs.Tryz.f79]
        rw [enter_mkT (Nat.le_of_ble_eq_true rfl)]
        simp (maxSteps := 4000000) only [go_sem, ↓op_move, ↓op_assign, ↓op_pick, ↓op_alloc, ↓op_box, ↓op_build, ↓op_buildSlice, ↓op_load, ↓op_store, ↓op_nilCheck, ↓op_bin, ↓op_un, ↓op_convert, ↓op_makeFunc, ↓op_makeSlice, ↓op_slice, ↓op_fieldAddr, ↓op_field, ↓op_indexAddr, ↓op_index, ↓op_extract, ↓op_lookup, ↓op_mapUpdate, ↓op_makeMap, ↓op_range, ↓op_next, ↓op_call, ↓op_builtin, ↓g_tt, ↓g_ff, ↓g_tf, ↓g_ft, ↓g_tnt, ↓g_tnf, ↓g_fnt, ↓g_fnf, ↓mkT_getD, d1, d2, d3, e1, e2]
        (repeat' first | exact inK_of (by omega) (by omega) | exact VEnt.refl _ | exact VEnt.of_eq rfl | exact ⟨by omega, by omega⟩ | refine ⟨?_, ?_⟩)

theorem tLow_ok : Holds Proofs.Tryz.prog G0 83 lowestC := by
  refine Holds.of_exC D83 Proofs.Tryz.func83 rfl foll (by kernel_rfl) (tab [(76, absC), (iceKey 1, iceC)]) (tab_ok ⟨tAbs_ok, ice_holds, trivial⟩) G0_ok fun k0 rl args hpu hpre => ?_
  unfold lowestC at hpre ⊢
  split at hpre
  rotate_left
  · exact hpre.elim
  rename_i a b
  obtain ⟨⟨h1, h2⟩, h3, h4⟩ := hpre
  have ha : 0 ≤ absE a ∧ absE a ≤ 1000000000000 := absE_le (k := 1000000000000) ⟨by omega, h2⟩
  obtain ⟨x, hx⟩ := Int.eq_ofNat_of_zero_le ha.1
  obtain ⟨y, rfl⟩ := Int.eq_ofNat_of_zero_le (show 0 ≤ b by omega)
  have hG : lowG a y = Nat.gcd x y := by unfold lowG; rw [hx]; simp
  rw [hx] at ha
  have hg0 : 0 < Nat.gcd x y := Nat.gcd_pos_of_pos_right _ (by omega)
  simp only [Proofs.Tryz.f83]
  rw [enter_mkT (Nat.le_of_ble_eq_true rfl)]
  simp (maxSteps := 4000000) only [go_sem, ↓op_move, ↓op_assign, ↓op_pick, ↓op_alloc, ↓op_box, ↓op_build, ↓op_buildSlice, ↓op_load, ↓op_store, ↓op_nilCheck, ↓op_bin, ↓op_un, ↓op_convert, ↓op_makeFunc, ↓op_makeSlice, ↓op_slice, ↓op_fieldAddr, ↓op_field, ↓op_indexAddr, ↓op_index, ↓op_extract, ↓op_lookup, ↓op_mapUpdate, ↓op_makeMap, ↓op_range, ↓op_next, ↓op_call, ↓op_builtin, ↓g_tt, ↓g_ff, ↓g_tf, ↓g_ft, ↓g_tnt, ↓g_tnf, ↓g_fnt, ↓g_fnf, ↓mkT_getD, hx, hG]
  refine ⟨⟨by omega, by omega⟩, ?_⟩
  refine RestT.loopF (β := Nat × Nat) [(3, 4), (10, 15)] (fun s => [(3, .int .i64 s.1), (4, .int .i64 s.2)]) (fun _ => _) (fun s => Nat.gcd s.1 s.2 = Nat.gcd x y ∧ s.1 ≤ 1000000000000 ∧ s.2 ≤ 1000000000000) (fun s => s.2) (x, y) ⟨rfl, by omega, by omega⟩ ?_ (HpLe.refl _) ?_
  · simp (maxSteps := 4000000) only [go_sem, ↓op_move, ↓op_assign, ↓op_pick, ↓op_alloc, ↓op_box, ↓op_build, ↓op_buildSlice, ↓op_load, ↓op_store, ↓op_nilCheck, ↓op_bin, ↓op_un, ↓op_convert, ↓op_makeFunc, ↓op_makeSlice, ↓op_slice, ↓op_fieldAddr, ↓op_field, ↓op_indexAddr, ↓op_index, ↓op_extract, ↓op_lookup, ↓op_mapUpdate, ↓op_makeMap, ↓op_range, ↓op_next, ↓op_call, ↓op_builtin, ↓g_tt, ↓g_ff, ↓g_tf, ↓g_ft, ↓g_tnt, ↓g_tnf, ↓g_fnt, ↓g_fnf, ↓mkT_getD]
    try exact rfl
  · intro ck s hck hI
    obtain ⟨u, v⟩ := s
    obtain ⟨hg, hu, hv⟩ := hI
    have hg : Nat.gcd u v = Nat.gcd x y := hg
    have hu : u ≤ 1000000000000 := hu
    have hv : v ≤ 1000000000000 := hv
    generalize hq0 : exC _ _ _ _ _ = gg
    by_cases hy0 : v = 0
    · have hd : decide ((v : Int) = 0) = true := by simp; omega
      subst hy0
      rw [Nat.gcd_zero_right] at hg
      have hd0 : decide ((u : Int) = 0) = false := by simp; omega
      have b1 := tdiv_bd (g := u) (show -1000000000000 ≤ a ∧ a ≤ 1000000000000 from ⟨by omega, h2⟩)
      have b2 := tdiv_bd (a := y) (k := 1000000000000) (g := u) ⟨by omega, by omega⟩
      rw [← hq0]
      clear hq0
      simp (maxSteps := 4000000) only [go_sem, ↓op_move, ↓op_assign, ↓op_pick, ↓op_alloc, ↓op_box, ↓op_build, ↓op_buildSlice, ↓op_load, ↓op_store, ↓op_nilCheck, ↓op_bin, ↓op_un, ↓op_convert, ↓op_makeFunc, ↓op_makeSlice, ↓op_slice, ↓op_fieldAddr, ↓op_field, ↓op_indexAddr, ↓op_index, ↓op_extract, ↓op_lookup, ↓op_mapUpdate, ↓op_makeMap, ↓op_range, ↓op_next, ↓op_call, ↓op_builtin, ↓g_tt, ↓g_ff, ↓g_tf, ↓g_ft, ↓g_tnt, ↓g_tnf, ↓g_fnt, ↓g_fnf, ↓mkT_getD, hd, hd0]
      rw [← hg]
      exact ⟨⟨by omega, inK_of (by omega) (by omega)⟩, ⟨by omega, inK_of (by omega) (by omega)⟩, VEnt.refl _⟩
    · have hd : decide ((v : Int) = 0) = false := by simp; omega
      have hm : ((u : Int).tmod (v : Int)) = ((u % v : Nat) : Int) := by
        rw [Int.tmod_eq_emod_of_nonneg (by omega)]; exact (Int.natCast_emod u v).symm
      rw [← hq0]
      clear hq0
      simp (maxSteps := 4000000) only [go_sem, ↓op_move, ↓op_assign, ↓op_pick, ↓op_alloc, ↓op_box, ↓op_build, ↓op_buildSlice, ↓op_load, ↓op_store, ↓op_nilCheck, ↓op_bin, ↓op_un, ↓op_convert, ↓op_makeFunc, ↓op_makeSlice, ↓op_slice, ↓op_fieldAddr, ↓op_field, ↓op_indexAddr, ↓op_index, ↓op_extract, ↓op_lookup, ↓op_mapUpdate, ↓op_makeMap, ↓op_range, ↓op_next, ↓op_call, ↓op_builtin, ↓g_tt, ↓g_ff, ↓g_tf, ↓g_ft, ↓g_tnt, ↓g_tnf, ↓g_fnt, ↓g_fnf, ↓mkT_getD, hd, hm]
      have hlt := Nat.mod_lt u (Nat.pos_of_ne_zero hy0)
      refine ⟨by omega, by omega, (v, u % v), ⟨by rw [← hg]; show Nat.gcd v (u % v) = Nat.gcd u v; rw [Nat.gcd_comm u v, Nat.gcd_rec v u, Nat.gcd_comm], hv, by show u % v ≤ _; omega⟩, hlt, ⟨rfl, rfl⟩, ?_⟩
      first | exact HpLe.refl _ | exact HpLe.none | trace_state

theorem tApart5_ok : Holds Proofs.Tryz.prog G0 84 apart5C := by
  refine Holds.of_exC D84 Proofs.Tryz.func84 rfl foll (by kernel_rfl) (tab [(iceKey 2, iceC), (iceKey 3, iceC)]) (tab_ok ⟨ice_holds, ice_holds, trivial⟩) G0_ok fun k0 rl args hpu hpre => ?_
  unfold apart5C at hpre ⊢
  split at hpre
  rotate_left
  · exact hpre.elim
  obtain ⟨h1, h2, h3, ⟨g1, g2, g3⟩⟩ := hpre
  rename_i x y z u v w
  have b1 := sq_bd (n := x - u) (k := 6000) (by omega)
  have b2 := sq_bd (n := y - v) (k := 6000) (by omega)
  have b3 := sq_bd (n := z - w) (k := 1000) (by omega)
  simp only [Proofs.Tryz.f84]
  rw [enter_mkT (Nat.le_of_ble_eq_true rfl)]
  simp (maxSteps := 4000000) only [go_sem, ↓op_move, ↓op_assign, ↓op_pick, ↓op_alloc, ↓op_box, ↓op_build, ↓op_buildSlice, ↓op_load, ↓op_store, ↓op_nilCheck, ↓op_bin, ↓op_un, ↓op_convert, ↓op_makeFunc, ↓op_makeSlice, ↓op_slice, ↓op_fieldAddr, ↓op_field, ↓op_indexAddr, ↓op_index, ↓op_extract, ↓op_lookup, ↓op_mapUpdate, ↓op_makeMap, ↓op_range, ↓op_next, ↓op_call, ↓op_builtin, ↓g_tt, ↓g_ff, ↓g_tf, ↓g_ft, ↓g_tnt, ↓g_tnf, ↓g_fnt, ↓g_fnf, ↓mkT_getD]
  (repeat' first | exact inK_of (by omega) (by omega) | exact VEnt.of_eq rfl | refine ⟨?_, ?_⟩)

theorem rSq4_ok : Holds Proofs.Tryz.prog G0 8 square4C := by
  refine Holds.of_exC D8 Proofs.Tryz.func8 rfl foll (by kernel_rfl) (tab [(iceKey 2, iceC), (iceKey 3, iceC)]) (tab_ok ⟨ice_holds, ice_holds, trivial⟩) G0_ok fun k0 rl args hpu hpre => ?_
  unfold square4C at hpre ⊢
  split at hpre
  rotate_left
  · exact hpre.elim
  obtain ⟨h1, h2⟩ := hpre
  have b := apart_bd h1 h2
  obtain ⟨g1, g2, g3⟩ := h1
  obtain ⟨k1, k2, k3⟩ := h2
  simp only [Proofs.Tryz.f8]
  rw [enter_mkT (Nat.le_of_ble_eq_true rfl)]
  simp (maxSteps := 4000000) only [go_sem, ↓op_move, ↓op_assign, ↓op_pick, ↓op_alloc, ↓op_box, ↓op_build, ↓op_buildSlice, ↓op_load, ↓op_store, ↓op_nilCheck, ↓op_bin, ↓op_un, ↓op_convert, ↓op_makeFunc, ↓op_makeSlice, ↓op_slice, ↓op_fieldAddr, ↓op_field, ↓op_indexAddr, ↓op_index, ↓op_extract, ↓op_lookup, ↓op_mapUpdate, ↓op_makeMap, ↓op_range, ↓op_next, ↓op_call, ↓op_builtin, ↓g_tt, ↓g_ff, ↓g_tf, ↓g_ft, ↓g_tnt, ↓g_tnf, ↓g_fnt, ↓g_fnf, ↓mkT_getD]
  (repeat' first | exact inK_of (by omega) (by omega) | exact VEnt.of_eq rfl | refine ⟨?_, ?_⟩)
end Go.Fly.Tryz
end
section
/- Walls that reflect: one wall, the parts of a mirror. -/
set_option maxRecDepth 100000
set_option maxHeartbeats 4000000
namespace Go.Fly.Tryz
open Go

theorem rPart_ok : Holds Proofs.Tryz.prog G0 82 partC := by
  refine Holds.of_exC D82 Proofs.Tryz.func82 rfl foll (by kernel_rfl) (tab [(83, lowestC)]) (tab_ok ⟨tLow_ok, trivial⟩) G0_ok fun k0 rl args hpu hpre => ?_
  unfold partC at hpre ⊢
  split at hpre
  rotate_left
  · exact hpre.elim
  rename_i v x y z d
  obtain ⟨⟨h1, h2⟩, h3, h4⟩ := hpre
  simp only [Proofs.Tryz.f82]
  rw [enter_mkT (Nat.le_of_ble_eq_true rfl)]
  simp (maxSteps := 4000000) only [go_sem, ↓op_move, ↓op_assign, ↓op_pick, ↓op_alloc, ↓op_box, ↓op_build, ↓op_buildSlice, ↓op_load, ↓op_store, ↓op_nilCheck, ↓op_bin, ↓op_un, ↓op_convert, ↓op_makeFunc, ↓op_makeSlice, ↓op_slice, ↓op_fieldAddr, ↓op_field, ↓op_indexAddr, ↓op_index, ↓op_extract, ↓op_lookup, ↓op_mapUpdate, ↓op_makeMap, ↓op_range, ↓op_next, ↓op_call, ↓op_builtin, ↓g_tt, ↓g_ff, ↓g_tf, ↓g_ft, ↓g_tnt, ↓g_tnf, ↓g_fnt, ↓g_fnf, ↓mkT_getD]
  exact ⟨⟨⟨h1, h2⟩, h3, h4⟩, VEnt.refl _⟩
end Go.Fly.Tryz
end
