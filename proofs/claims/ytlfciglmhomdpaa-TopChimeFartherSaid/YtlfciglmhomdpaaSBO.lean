/- The verifier: copies of types and airs, places. -/
import Derived.Test.YtlfciglmhomdpaaSEn
import Derived.Test.YtlfciglmhomdpaaAO
set_option linter.unusedSimpArgs false
set_option linter.unusedVariables false
set_option maxRecDepth 100000
set_option maxHeartbeats 1000000
namespace Go.Fly.Try
open Go

theorem tAway_ok : Holds Proofs.Try.prog G0 7 awayC := by
  refine Holds.of_exC D7 Proofs.Try.func7 rfl foll (by kernel_rfl) (tab [(iceKey 2, iceC)]) (tab_ok ⟨ice_holds, trivial⟩) G0_ok fun k0 rl args hpu hpre => ?_
  unfold awayC at hpre ⊢
  split at hpre
  rotate_left
  · exact hpre.elim
  rename_i x y z hx hy p ax ay az t
  obtain ⟨h1, h2, h3, h4, h5, h6, h7, h8⟩ := hpre
  simp only [Proofs.Try.f7]
  simp (maxSteps := 4000000) only [go_sem, ↓op_move, ↓op_assign, ↓op_pick, ↓op_alloc, ↓op_box, ↓op_build, ↓op_buildSlice, ↓op_load, ↓op_store, ↓op_nilCheck, ↓op_bin, ↓op_un, ↓op_convert, ↓op_makeFunc, ↓op_makeSlice, ↓op_slice, ↓op_fieldAddr, ↓op_field, ↓op_indexAddr, ↓op_index, ↓op_extract, ↓op_range, ↓op_next, ↓op_call, ↓op_builtin, ↓g_tt, ↓g_ff, ↓g_tf, ↓g_ft, ↓g_tnt, ↓g_tnf, ↓g_fnt, ↓g_fnf]
  have e1 := mul_abs_le (a := t) (b := ax) (A := 2) (B := 100000) (by omega) (by omega) (by omega) (by omega)
  have e2 := mul_abs_le (a := t) (b := ay) (A := 2) (B := 100000) (by omega) (by omega) (by omega) (by omega)
  have e3 := mul_abs_le (a := t) (b := az) (A := 2) (B := 100000) (by omega) (by omega) (by omega) (by omega)
  exact ⟨inK_of (by omega) (by omega), inK_of (by omega) (by omega), inK_of (by omega) (by omega), inK_of (by omega) (by omega), inK_of (by omega) (by omega), inK_of (by omega) (by omega), VEnt.of_eq rfl⟩

theorem tAir_ok : Holds Proofs.Try.prog G0 9 airCopyC := by
  refine Holds.of_exC D9 Proofs.Try.func9 rfl foll (by kernel_rfl) (tab []) (tab_ok trivial) G0_ok fun k0 rl args hpu hpre => ?_
  unfold airCopyC at hpre ⊢
  split at hpre
  rotate_left
  · exact hpre.elim
  rename_i n sz get
  obtain ⟨rfl, hair, hn8, hb8⟩ := hpre
  have hp := hair.pu
  simp only [Proofs.Try.f9]
  simp (maxSteps := 4000000) only [go_sem, ↓op_move, ↓op_assign, ↓op_pick, ↓op_alloc, ↓op_box, ↓op_build, ↓op_buildSlice, ↓op_load, ↓op_store, ↓op_nilCheck, ↓op_bin, ↓op_un, ↓op_convert, ↓op_makeFunc, ↓op_makeSlice, ↓op_slice, ↓op_fieldAddr, ↓op_field, ↓op_indexAddr, ↓op_index, ↓op_extract, ↓op_range, ↓op_next, ↓op_call, ↓op_builtin, ↓g_tt, ↓g_ff, ↓g_tf, ↓g_ft, ↓g_tnt, ↓g_tnf, ↓g_fnt, ↓g_fnf, hp]
  refine RestT.ents (Ents.nilArr (d := 3) (l := (4, 1000)) 5 (fun _ => []) rfl rfl rfl) ?_
  simp only [go_sem, ↓op_move, ↓op_assign, ↓op_pick, ↓op_alloc, ↓op_box, ↓op_build, ↓op_buildSlice, ↓op_load, ↓op_store, ↓op_nilCheck, ↓op_bin, ↓op_un, ↓op_convert, ↓op_makeFunc, ↓op_makeSlice, ↓op_slice, ↓op_fieldAddr, ↓op_field, ↓op_indexAddr, ↓op_index, ↓op_extract, ↓op_range, ↓op_next, ↓op_call, ↓op_builtin, ↓g_tt, ↓g_ff, ↓g_tf, ↓g_ft, ↓g_tnt, ↓g_tnf, ↓g_fnt, ↓g_fnf]
  refine RestT.loopI (β := Nat) [5, 9, 10, 11, 12, 13, 14, 15, 16, 17, 18, 19, 20, 21, 22, 23, 24, 25, 26] (fun i => [(3, .msl (4, 1000) 0 i), (8, .int .i64 i)]) (fun i => updH (fun _ => none) (4, 1000) (.arr i 5 get)) (fun i => i ≤ n) (fun i => n - i) 0 (Nat.zero_le _) ?_
    (HpLe.arr1 (updH_same _ _ _) rfl rfl fun i hi => by omega) ?_
  · simp (maxSteps := 4000000) only [go_sem, ↓op_move, ↓op_assign, ↓op_pick, ↓op_alloc, ↓op_box, ↓op_build, ↓op_buildSlice, ↓op_load, ↓op_store, ↓op_nilCheck, ↓op_bin, ↓op_un, ↓op_convert, ↓op_makeFunc, ↓op_makeSlice, ↓op_slice, ↓op_fieldAddr, ↓op_field, ↓op_indexAddr, ↓op_index, ↓op_extract, ↓op_range, ↓op_next, ↓op_call, ↓op_builtin, ↓g_tt, ↓g_ff, ↓g_tf, ↓g_ft, ↓g_tnt, ↓g_tnf, ↓g_fnt, ↓g_fnf]
  · intro ck i hck hi
    have hk0 : ¬ ck = 0 := by omega
    generalize hq0 : exC _ _ _ _ _ = gg
    by_cases hlt : i < n
    · have hd : decide ((i : Int) < (n : Int)) = true := by simp; omega
      obtain ⟨hg, hiv⟩ := hair.2 i hlt
      have hp2 := hiv.pu
      rw [← hq0]
      clear hq0
      have hz : 0 + inN get i 4 = inN get i 4 := Nat.zero_add _
      have hbi := hb8 i hlt
      simp (maxSteps := 4000000) only [go_sem, ↓op_move, ↓op_assign, ↓op_pick, ↓op_alloc, ↓op_box, ↓op_build, ↓op_buildSlice, ↓op_load, ↓op_store, ↓op_nilCheck, ↓op_bin, ↓op_un, ↓op_convert, ↓op_makeFunc, ↓op_makeSlice, ↓op_slice, ↓op_fieldAddr, ↓op_field, ↓op_indexAddr, ↓op_index, ↓op_extract, ↓op_range, ↓op_next, ↓op_call, ↓op_builtin, ↓g_tt, ↓g_ff, ↓g_tf, ↓g_ft, ↓g_tnt, ↓g_tnf, ↓g_fnt, ↓g_fnf, hd, hg, hp, hp2, hk0, app0, hz]
      refine ⟨by omega, ⟨by omega, by omega, ivs_ok hiv⟩, ⟨by omega, by omega, row_ok rfl (ones5s hp2)⟩, inK_of (by omega) (by omega), i + 1, hlt, by omega, ⟨rfl, rfl⟩, HpLe.upd HpLe.none ⟨_, ?_, objLe_arr fun j hj => snoc (f := get) rfl hg hj⟩⟩
      simp (maxSteps := 4000000) only [go_sem, ↓op_move, ↓op_assign, ↓op_pick, ↓op_alloc, ↓op_box, ↓op_build, ↓op_buildSlice, ↓op_load, ↓op_store, ↓op_nilCheck, ↓op_bin, ↓op_un, ↓op_convert, ↓op_makeFunc, ↓op_makeSlice, ↓op_slice, ↓op_fieldAddr, ↓op_field, ↓op_indexAddr, ↓op_index, ↓op_extract, ↓op_range, ↓op_next, ↓op_call, ↓op_builtin, ↓g_tt, ↓g_ff, ↓g_tf, ↓g_ft, ↓g_tnt, ↓g_tnf, ↓g_fnt, ↓g_fnf, hk0]
    · have hd : decide ((i : Int) < (n : Int)) = false := by simp; omega
      obtain rfl : i = n := by omega
      rw [← hq0]
      clear hq0
      simp (maxSteps := 4000000) only [go_sem, ↓op_move, ↓op_assign, ↓op_pick, ↓op_alloc, ↓op_box, ↓op_build, ↓op_buildSlice, ↓op_load, ↓op_store, ↓op_nilCheck, ↓op_bin, ↓op_un, ↓op_convert, ↓op_makeFunc, ↓op_makeSlice, ↓op_slice, ↓op_fieldAddr, ↓op_field, ↓op_indexAddr, ↓op_index, ↓op_extract, ↓op_range, ↓op_next, ↓op_call, ↓op_builtin, ↓g_tt, ↓g_ff, ↓g_tf, ↓g_ft, ↓g_tnt, ↓g_tnf, ↓g_fnt, ↓g_fnf, hd, hp]
      rw [if_pos (by omega)]
      exact VEnt.sl fun j hj => by rw [Nat.zero_add]; first | done | exact frzRow_pu fun v hv => (ones2 v hv).1 | exact frzRow_pu fun v hv => (ones1 v hv).1 | exact frzRow_sl hp3 hj | exact frzRow_sl hp hj

theorem tOwned_ok : Holds Proofs.Try.prog G0 11 ownedC := by
  refine Holds.of_exC D11 Proofs.Try.func11 rfl foll (by kernel_rfl) (tab [(iceKey 1, iceC)]) (tab_ok ⟨ice_holds, trivial⟩) G0_ok fun k0 rl args hpu hpre => ?_
  unfold ownedC at hpre ⊢
  split at hpre
  rotate_left
  · exact hpre.elim
  rename_i s ns zs gs d0 d1 d2 d3 d4 d5 d6 d7 side nq zq gq m zt gt
  obtain ⟨rfl, rfl, rfl, hs, hq, ht, hn8, hq8, hm6, hb8⟩ := hpre
  have hp1 := hs.pu
  have hp2 := hq.pu
  have hp3 := ht.pu
  have hz1 : 0 + ns = ns := Nat.zero_add _
  have hz2 : 0 + nq = nq := Nat.zero_add _
  simp only [Proofs.Try.f11]
  simp (maxSteps := 4000000) only [go_sem, ↓op_move, ↓op_assign, ↓op_pick, ↓op_alloc, ↓op_box, ↓op_build, ↓op_buildSlice, ↓op_load, ↓op_store, ↓op_nilCheck, ↓op_bin, ↓op_un, ↓op_convert, ↓op_makeFunc, ↓op_makeSlice, ↓op_slice, ↓op_fieldAddr, ↓op_field, ↓op_indexAddr, ↓op_index, ↓op_extract, ↓op_range, ↓op_next, ↓op_call, ↓op_builtin, ↓g_tt, ↓g_ff, ↓g_tf, ↓g_ft, ↓g_tnt, ↓g_tnf, ↓g_fnt, ↓g_fnf, hp1, hp2, hp3, app0, hz1, hz2]
  refine ⟨⟨by omega, by omega, ints_ok hs⟩, ⟨by omega, by omega, ints_ok hq⟩, ?_⟩
  refine RestT.ents (Ents.nilC (l := (5, 1000)) (l2 := (3, 3)) (cs := [.str s, .sl ns 1 gs, .int .i64 d0, .int .i64 d1, .int .i64 d2, .int .i64 d3, .int .i64 d4, .int .i64 d5, .int .i64 d6, .int .i64 d7, .int .i64 side, .sl nq 1 gq, .nils]) (j := 12) 2 gt (by decide) (by simp [updH]) rfl (by simp [updH]) rfl) ?_
  refine RestT.loopI (β := Nat) [17, 18, 19, 20, 21, 22, 23, 24, 25, 26, 27, 28, 29, 30, 31, 32, 33, 34, 35, 36, 37, 38, 39, 40, 41, 42, 43] (fun i => [(4, .int .i64 i)]) (fun i => updH (updH (updH (fun _ => none) (2, 2) (.cells [.str [], .nils, .int .i64 0, .int .i64 0, .int .i64 0, .int .i64 0, .int .i64 0, .int .i64 0, .int .i64 0, .int .i64 0, .int .i64 0, .nils, .nils])) (3, 3) (.cells [.str s, .sl ns 1 gs, .int .i64 d0, .int .i64 d1, .int .i64 d2, .int .i64 d3, .int .i64 d4, .int .i64 d5, .int .i64 d6, .int .i64 d7, .int .i64 side, .sl nq 1 gq, .msl (5, 1000) 0 i])) (5, 1000) (.arr i 2 gt)) (fun i => i ≤ m) (fun i => m - i) 0 (Nat.zero_le _) ?_ ?_ ?_
  · simp (maxSteps := 4000000) only [go_sem, ↓op_move, ↓op_assign, ↓op_pick, ↓op_alloc, ↓op_box, ↓op_build, ↓op_buildSlice, ↓op_load, ↓op_store, ↓op_nilCheck, ↓op_bin, ↓op_un, ↓op_convert, ↓op_makeFunc, ↓op_makeSlice, ↓op_slice, ↓op_fieldAddr, ↓op_field, ↓op_indexAddr, ↓op_index, ↓op_extract, ↓op_range, ↓op_next, ↓op_call, ↓op_builtin, ↓g_tt, ↓g_ff, ↓g_tf, ↓g_ft, ↓g_tnt, ↓g_tnf, ↓g_fnt, ↓g_fnf]
  · refine HpLe.upd (HpLe.upd (HpLe.upd HpLe.none ⟨_, ?_, ObjLe.refl _⟩) ⟨_, ?_, ObjLe.refl _⟩) ⟨_, ?_, ObjLe.refl _⟩ <;> simp [updH]
  · intro ck i hck hi
    have hck : 5 ≤ ck := hck
    have hk0 : ¬ ck = 0 := by omega
    generalize hq0 : exC _ _ _ _ _ = gg
    by_cases hlt : i < m
    · have hd : decide ((i : Int) < (m : Int)) = true := by simp; omega
      obtain ⟨hg, hin⟩ := ht.2 i hlt
      have hp4 := hin.pu
      have hz : 0 + inN gt i 1 = inN gt i 1 := Nat.zero_add _
      have hbi := hb8 i hlt
      rw [← hq0]
      clear hq0
      simp (maxSteps := 4000000) only [go_sem, ↓op_move, ↓op_assign, ↓op_pick, ↓op_alloc, ↓op_box, ↓op_build, ↓op_buildSlice, ↓op_load, ↓op_store, ↓op_nilCheck, ↓op_bin, ↓op_un, ↓op_convert, ↓op_makeFunc, ↓op_makeSlice, ↓op_slice, ↓op_fieldAddr, ↓op_field, ↓op_indexAddr, ↓op_index, ↓op_extract, ↓op_range, ↓op_next, ↓op_call, ↓op_builtin, ↓g_tt, ↓g_ff, ↓g_tf, ↓g_ft, ↓g_tnt, ↓g_tnf, ↓g_fnt, ↓g_fnf, hd, hg, hp1, hp2, hp3, hp4, hk0, app0, hz]
      refine ⟨by omega, by omega, ⟨by omega, by omega, ints_ok hin⟩, ⟨by omega, by omega, row_ok rfl (ones2s hp4)⟩, inK_of (by omega) (by omega), by omega, i + 1, hlt, by omega, rfl, ?_⟩
      refine HpLe.upd (HpLe.upd (HpLe.upd HpLe.none ⟨_, ?_, ObjLe.refl _⟩) ⟨_, ?_, ObjLe.refl _⟩) ⟨_, ?_, objLe_arr fun j hj => snoc (f := gt) rfl hg hj⟩
      · simp (maxSteps := 4000000) only [go_sem, ↓op_move, ↓op_assign, ↓op_pick, ↓op_alloc, ↓op_box, ↓op_build, ↓op_buildSlice, ↓op_load, ↓op_store, ↓op_nilCheck, ↓op_bin, ↓op_un, ↓op_convert, ↓op_makeFunc, ↓op_makeSlice, ↓op_slice, ↓op_fieldAddr, ↓op_field, ↓op_indexAddr, ↓op_index, ↓op_extract, ↓op_range, ↓op_next, ↓op_call, ↓op_builtin, ↓g_tt, ↓g_ff, ↓g_tf, ↓g_ft, ↓g_tnt, ↓g_tnf, ↓g_fnt, ↓g_fnf, hk0]
      · simp (maxSteps := 4000000) only [go_sem, ↓op_move, ↓op_assign, ↓op_pick, ↓op_alloc, ↓op_box, ↓op_build, ↓op_buildSlice, ↓op_load, ↓op_store, ↓op_nilCheck, ↓op_bin, ↓op_un, ↓op_convert, ↓op_makeFunc, ↓op_makeSlice, ↓op_slice, ↓op_fieldAddr, ↓op_field, ↓op_indexAddr, ↓op_index, ↓op_extract, ↓op_range, ↓op_next, ↓op_call, ↓op_builtin, ↓g_tt, ↓g_ff, ↓g_tf, ↓g_ft, ↓g_tnt, ↓g_tnf, ↓g_fnt, ↓g_fnf, hk0]
      · simp (maxSteps := 4000000) only [go_sem, ↓op_move, ↓op_assign, ↓op_pick, ↓op_alloc, ↓op_box, ↓op_build, ↓op_buildSlice, ↓op_load, ↓op_store, ↓op_nilCheck, ↓op_bin, ↓op_un, ↓op_convert, ↓op_makeFunc, ↓op_makeSlice, ↓op_slice, ↓op_fieldAddr, ↓op_field, ↓op_indexAddr, ↓op_index, ↓op_extract, ↓op_range, ↓op_next, ↓op_call, ↓op_builtin, ↓g_tt, ↓g_ff, ↓g_tf, ↓g_ft, ↓g_tnt, ↓g_tnf, ↓g_fnt, ↓g_fnf, hk0]
    · have hd : decide ((i : Int) < (m : Int)) = false := by simp; omega
      obtain rfl : i = m := by omega
      rw [← hq0]
      clear hq0
      simp (maxSteps := 4000000) only [go_sem, ↓op_move, ↓op_assign, ↓op_pick, ↓op_alloc, ↓op_box, ↓op_build, ↓op_buildSlice, ↓op_load, ↓op_store, ↓op_nilCheck, ↓op_bin, ↓op_un, ↓op_convert, ↓op_makeFunc, ↓op_makeSlice, ↓op_slice, ↓op_fieldAddr, ↓op_field, ↓op_indexAddr, ↓op_index, ↓op_extract, ↓op_range, ↓op_next, ↓op_call, ↓op_builtin, ↓g_tt, ↓g_ff, ↓g_tf, ↓g_ft, ↓g_tnt, ↓g_tnf, ↓g_fnt, ↓g_fnf, hd, hp1, hp2, hp3]
      rw [if_pos (by omega)]
      exact VEnt.agg ⟨VEnt.of_eq rfl, VEnt.of_eq rfl, VEnt.of_eq rfl, VEnt.of_eq rfl, VEnt.of_eq rfl, VEnt.of_eq rfl, VEnt.of_eq rfl, VEnt.of_eq rfl, VEnt.of_eq rfl, VEnt.of_eq rfl, VEnt.of_eq rfl, VEnt.of_eq rfl, VEnt.sl fun j hj => by rw [Nat.zero_add]; first | done | exact frzRow_pu fun v hv => (ones2 v hv).1 | exact frzRow_pu fun v hv => (ones1 v hv).1 | exact frzRow_sl hp3 hj | exact frzRow_sl hp hj, trivial⟩

theorem tType_ok : Holds Proofs.Try.prog G0 19 ownedC := by
  refine Holds.of_exC D19 Proofs.Try.func19 rfl foll (by kernel_rfl) (tab [(11, ownedC)]) (tab_ok ⟨tOwned_ok, trivial⟩) G0_ok fun k0 rl args hpu hpre => ?_
  unfold ownedC at hpre ⊢
  split at hpre
  rotate_left
  · exact hpre.elim
  rename_i s ns zs gs d0 d1 d2 d3 d4 d5 d6 d7 side nq zq gq m zt gt
  obtain ⟨rfl, rfl, rfl, hs, hq, ht, hn8, hq8, hm6, hb8⟩ := hpre
  have hp1 := hs.pu
  have hp2 := hq.pu
  have hp3 := ht.pu
  simp only [Proofs.Try.f19]
  simp (maxSteps := 4000000) only [go_sem, ↓op_move, ↓op_assign, ↓op_pick, ↓op_alloc, ↓op_box, ↓op_build, ↓op_buildSlice, ↓op_load, ↓op_store, ↓op_nilCheck, ↓op_bin, ↓op_un, ↓op_convert, ↓op_makeFunc, ↓op_makeSlice, ↓op_slice, ↓op_fieldAddr, ↓op_field, ↓op_indexAddr, ↓op_index, ↓op_extract, ↓op_range, ↓op_next, ↓op_call, ↓op_builtin, ↓g_tt, ↓g_ff, ↓g_tf, ↓g_ft, ↓g_tnt, ↓g_tnf, ↓g_fnt, ↓g_fnf, hp1, hp2, hp3]
  refine ⟨⟨hs, hq, ht, hn8, hq8, hm6, hb8⟩, ?_⟩
  refine RestT.ents (Ents.nilC (l := (5, 1000)) (l2 := (4, 3)) (cs := [.str s, .sl ns 1 gs, .int .i64 d0, .int .i64 d1, .int .i64 d2, .int .i64 d3, .int .i64 d4, .int .i64 d5, .int .i64 d6, .int .i64 d7, .int .i64 side, .sl nq 1 gq, .nils]) (j := 12) 2 gt (by decide) (by simp [updH]) rfl (by simp [updH]) rfl) ?_
  refine RestT.loopI (β := Nat) [5, 23, 24, 25, 26, 27, 28, 29, 30, 31, 32] (fun i => [(22, .int .i64 i)]) (fun i => updH (updH (updH (updH (fun _ => none) (2, 1) (.cells [.str s, .sl ns 1 gs, .int .i64 d0, .int .i64 d1, .int .i64 d2, .int .i64 d3, .int .i64 d4, .int .i64 d5, .int .i64 d6, .int .i64 d7, .int .i64 side, .sl nq 1 gq, .sl m 2 gt])) (2, 2) (.cells [.str [], .nils, .int .i64 0, .int .i64 0, .int .i64 0, .int .i64 0, .int .i64 0, .int .i64 0, .int .i64 0, .int .i64 0, .int .i64 0, .nils, .nils])) (4, 3) (.cells [.str s, .sl ns 1 gs, .int .i64 d0, .int .i64 d1, .int .i64 d2, .int .i64 d3, .int .i64 d4, .int .i64 d5, .int .i64 d6, .int .i64 d7, .int .i64 side, .sl nq 1 gq, .msl (5, 1000) 0 i])) (5, 1000) (.arr i 2 gt)) (fun i => i ≤ m) (fun i => m - i) 0 (Nat.zero_le _) ?_ ?_ ?_
  · simp (maxSteps := 4000000) only [go_sem, ↓op_move, ↓op_assign, ↓op_pick, ↓op_alloc, ↓op_box, ↓op_build, ↓op_buildSlice, ↓op_load, ↓op_store, ↓op_nilCheck, ↓op_bin, ↓op_un, ↓op_convert, ↓op_makeFunc, ↓op_makeSlice, ↓op_slice, ↓op_fieldAddr, ↓op_field, ↓op_indexAddr, ↓op_index, ↓op_extract, ↓op_range, ↓op_next, ↓op_call, ↓op_builtin, ↓g_tt, ↓g_ff, ↓g_tf, ↓g_ft, ↓g_tnt, ↓g_tnf, ↓g_fnt, ↓g_fnf]
  · refine HpLe.upd (HpLe.upd (HpLe.upd (HpLe.upd HpLe.none ⟨_, ?_, ObjLe.refl _⟩) ⟨_, ?_, ObjLe.refl _⟩) ⟨_, ?_, ObjLe.refl _⟩) ⟨_, ?_, ObjLe.refl _⟩ <;> simp [updH]
  · intro ck i hck hi
    have hck : 5 ≤ ck := hck
    have hk0 : ¬ ck = 0 := by omega
    generalize hq0 : exC _ _ _ _ _ = gg
    by_cases hlt : i < m
    · have hd : decide ((i : Int) < (m : Int)) = true := by simp; omega
      obtain ⟨hg, hin⟩ := ht.2 i hlt
      have hp4 := hin.pu
      rw [← hq0]
      clear hq0
      simp (maxSteps := 4000000) only [go_sem, ↓op_move, ↓op_assign, ↓op_pick, ↓op_alloc, ↓op_box, ↓op_build, ↓op_buildSlice, ↓op_load, ↓op_store, ↓op_nilCheck, ↓op_bin, ↓op_un, ↓op_convert, ↓op_makeFunc, ↓op_makeSlice, ↓op_slice, ↓op_fieldAddr, ↓op_field, ↓op_indexAddr, ↓op_index, ↓op_extract, ↓op_range, ↓op_next, ↓op_call, ↓op_builtin, ↓g_tt, ↓g_ff, ↓g_tf, ↓g_ft, ↓g_tnt, ↓g_tnf, ↓g_fnt, ↓g_fnf, hd, hg, hp1, hp2, hp3, hp4, hk0]
      refine ⟨by omega, ⟨by omega, by omega, row_ok rfl (ones2s hp4)⟩, inK_of (by omega) (by omega), by omega, i + 1, hlt, by omega, rfl, ?_⟩
      refine HpLe.upd (HpLe.upd (HpLe.upd (HpLe.upd HpLe.none ⟨_, ?_, ObjLe.refl _⟩) ⟨_, ?_, ObjLe.refl _⟩) ⟨_, ?_, ObjLe.refl _⟩) ⟨_, ?_, objLe_arr fun j hj => snoc (f := gt) rfl hg hj⟩
      · simp (maxSteps := 4000000) only [go_sem, ↓op_move, ↓op_assign, ↓op_pick, ↓op_alloc, ↓op_box, ↓op_build, ↓op_buildSlice, ↓op_load, ↓op_store, ↓op_nilCheck, ↓op_bin, ↓op_un, ↓op_convert, ↓op_makeFunc, ↓op_makeSlice, ↓op_slice, ↓op_fieldAddr, ↓op_field, ↓op_indexAddr, ↓op_index, ↓op_extract, ↓op_range, ↓op_next, ↓op_call, ↓op_builtin, ↓g_tt, ↓g_ff, ↓g_tf, ↓g_ft, ↓g_tnt, ↓g_tnf, ↓g_fnt, ↓g_fnf, hk0]
      · simp (maxSteps := 4000000) only [go_sem, ↓op_move, ↓op_assign, ↓op_pick, ↓op_alloc, ↓op_box, ↓op_build, ↓op_buildSlice, ↓op_load, ↓op_store, ↓op_nilCheck, ↓op_bin, ↓op_un, ↓op_convert, ↓op_makeFunc, ↓op_makeSlice, ↓op_slice, ↓op_fieldAddr, ↓op_field, ↓op_indexAddr, ↓op_index, ↓op_extract, ↓op_range, ↓op_next, ↓op_call, ↓op_builtin, ↓g_tt, ↓g_ff, ↓g_tf, ↓g_ft, ↓g_tnt, ↓g_tnf, ↓g_fnt, ↓g_fnf, hk0]
      · simp (maxSteps := 4000000) only [go_sem, ↓op_move, ↓op_assign, ↓op_pick, ↓op_alloc, ↓op_box, ↓op_build, ↓op_buildSlice, ↓op_load, ↓op_store, ↓op_nilCheck, ↓op_bin, ↓op_un, ↓op_convert, ↓op_makeFunc, ↓op_makeSlice, ↓op_slice, ↓op_fieldAddr, ↓op_field, ↓op_indexAddr, ↓op_index, ↓op_extract, ↓op_range, ↓op_next, ↓op_call, ↓op_builtin, ↓g_tt, ↓g_ff, ↓g_tf, ↓g_ft, ↓g_tnt, ↓g_tnf, ↓g_fnt, ↓g_fnf, hk0]
      · simp (maxSteps := 4000000) only [go_sem, ↓op_move, ↓op_assign, ↓op_pick, ↓op_alloc, ↓op_box, ↓op_build, ↓op_buildSlice, ↓op_load, ↓op_store, ↓op_nilCheck, ↓op_bin, ↓op_un, ↓op_convert, ↓op_makeFunc, ↓op_makeSlice, ↓op_slice, ↓op_fieldAddr, ↓op_field, ↓op_indexAddr, ↓op_index, ↓op_extract, ↓op_range, ↓op_next, ↓op_call, ↓op_builtin, ↓g_tt, ↓g_ff, ↓g_tf, ↓g_ft, ↓g_tnt, ↓g_tnf, ↓g_fnt, ↓g_fnf, hk0]
    · have hd : decide ((i : Int) < (m : Int)) = false := by simp; omega
      obtain rfl : i = m := by omega
      rw [← hq0]
      clear hq0
      simp (maxSteps := 4000000) only [go_sem, ↓op_move, ↓op_assign, ↓op_pick, ↓op_alloc, ↓op_box, ↓op_build, ↓op_buildSlice, ↓op_load, ↓op_store, ↓op_nilCheck, ↓op_bin, ↓op_un, ↓op_convert, ↓op_makeFunc, ↓op_makeSlice, ↓op_slice, ↓op_fieldAddr, ↓op_field, ↓op_indexAddr, ↓op_index, ↓op_extract, ↓op_range, ↓op_next, ↓op_call, ↓op_builtin, ↓g_tt, ↓g_ff, ↓g_tf, ↓g_ft, ↓g_tnt, ↓g_tnf, ↓g_fnt, ↓g_fnf, hd, hp1, hp2, hp3]
      rw [if_pos (by omega)]
      exact VEnt.agg ⟨VEnt.of_eq rfl, VEnt.of_eq rfl, VEnt.of_eq rfl, VEnt.of_eq rfl, VEnt.of_eq rfl, VEnt.of_eq rfl, VEnt.of_eq rfl, VEnt.of_eq rfl, VEnt.of_eq rfl, VEnt.of_eq rfl, VEnt.of_eq rfl, VEnt.of_eq rfl, VEnt.sl fun j hj => by rw [Nat.zero_add]; first | done | exact frzRow_pu fun v hv => (ones2 v hv).1 | exact frzRow_pu fun v hv => (ones1 v hv).1 | exact frzRow_sl hp3 hj | exact frzRow_sl hp hj, trivial⟩
end Go.Fly.Try
