/- Simple functions of the sources; levels. -/
import Derived.Test.YtlfciglmhomdpaaSBC
import Derived.Test.YtlfciglmhomdpaaAJ
set_option linter.unusedSimpArgs false
set_option linter.unusedVariables false
set_option maxRecDepth 100000
set_option maxHeartbeats 1000000
namespace Go.Fly.Try
open Go
theorem impI {p q : Prop} (h : p → q) : p → q := h

theorem sFloor_ok : Holds Proofs.Try.prog G0 92 floorC := by
  refine Holds.of_exC D92 Proofs.Try.func92 rfl foll (by kernel_rfl) (tab []) (tab_ok trivial) G0_ok fun k0 rl args hpu hpre => ?_
  unfold floorC at hpre ⊢
  split at hpre
  rotate_left
  · exact hpre.elim
  rename_i num den
  obtain ⟨h0, h1, h2⟩ := hpre
  simp only [Proofs.Try.f92]
  simp (maxSteps := 4000000) only [go_sem, ↓op_move, ↓op_assign, ↓op_pick, ↓op_alloc, ↓op_box, ↓op_build, ↓op_buildSlice, ↓op_load, ↓op_store, ↓op_nilCheck, ↓op_bin, ↓op_un, ↓op_convert, ↓op_makeFunc, ↓op_makeSlice, ↓op_slice, ↓op_fieldAddr, ↓op_field, ↓op_indexAddr, ↓op_index, ↓op_extract, ↓op_range, ↓op_next, ↓op_call, ↓op_builtin, ↓g_tt, ↓g_ff, ↓g_tf, ↓g_ft, ↓g_tnt, ↓g_tnf, ↓g_fnt, ↓g_fnf]
  have hf := floor_eq (num := num) h0
  have h3 := Int.mul_tdiv_add_tmod num den
  have h4 : -den < num.tmod den ∧ num.tmod den < den := by
    have e1 := Int.tmod_lt_of_pos num h0
    have e2 := Int.tmod_lt_of_pos (-num) h0
    rw [Int.neg_tmod] at e2
    omega
  rw [Int.mul_comm] at h3
  have h5 : -1000000000000000 ≤ num.tdiv den ∧ num.tdiv den ≤ 1000000000000000 := by
    rcases Int.le_total 0 num with q | q
    · rw [Int.tdiv_eq_ediv_of_nonneg q]
      have := Int.ediv_le_self den q
      have := Int.ediv_nonneg q (show 0 ≤ den by omega)
      omega
    · have e : num.tdiv den = -((-num).tdiv den) := by rw [Int.neg_tdiv]; omega
      rw [e, Int.tdiv_eq_ediv_of_nonneg (show 0 ≤ -num by omega)]
      have := Int.ediv_le_self den (show 0 ≤ -num by omega)
      have := Int.ediv_nonneg (show 0 ≤ -num by omega) (show 0 ≤ den by omega)
      omega
  have h7 : -9223372036854775808 ≤ num.tdiv den * den ∧ num.tdiv den * den ≤ 9223372036854775807 := by
    rcases Int.le_total 0 num with q | q
    · have := Int.tmod_nonneg den q
      have e1 : 0 ≤ num.tdiv den := by rw [Int.tdiv_eq_ediv_of_nonneg q]; exact Int.ediv_nonneg q (by omega)
      have := Int.mul_nonneg e1 (show 0 ≤ den by omega)
      omega
    · have := Int.tmod_nonneg den (show 0 ≤ -num by omega)
      rw [Int.neg_tmod] at this
      have e4 : num.tdiv den * den ≤ 0 := by
        have : num.tdiv den ≤ 0 := by
          have e : num.tdiv den = -((-num).tdiv den) := by rw [Int.neg_tdiv]; omega
          rw [e, Int.tdiv_eq_ediv_of_nonneg (show 0 ≤ -num by omega)]
          have := Int.ediv_nonneg (show 0 ≤ -num by omega) (show 0 ≤ den by omega)
          omega
        exact Int.mul_nonpos_of_nonpos_of_nonneg this (by omega)
      omega
  refine ⟨⟨by omega, inK_of (by omega) (by omega)⟩, inK_of h7.1 h7.2, fun h => ⟨inK_of (by omega) (by omega), VEnt.of_eq ?_⟩, fun h => VEnt.of_eq ?_⟩
  · rw [← hf, if_pos h]
  · rw [← hf, if_neg h]

theorem sBetween_ok : Holds Proofs.Try.prog G0 86 betweenC := by
  refine Holds.of_exC D86 Proofs.Try.func86 rfl foll (by kernel_rfl) (tab [(92, floorC)]) (tab_ok ⟨sFloor_ok, trivial⟩) G0_ok fun k0 rl args hpu hpre => ?_
  unfold betweenC at hpre ⊢
  split at hpre
  rotate_left
  · exact hpre.elim
  rename_i a b part whole
  obtain ⟨h1, h2, h3, h4, h5, h6, h7, h8⟩ := hpre
  simp only [Proofs.Try.f86]
  simp (maxSteps := 4000000) only [go_sem, ↓op_move, ↓op_assign, ↓op_pick, ↓op_alloc, ↓op_box, ↓op_build, ↓op_buildSlice, ↓op_load, ↓op_store, ↓op_nilCheck, ↓op_bin, ↓op_un, ↓op_convert, ↓op_makeFunc, ↓op_makeSlice, ↓op_slice, ↓op_fieldAddr, ↓op_field, ↓op_indexAddr, ↓op_index, ↓op_extract, ↓op_range, ↓op_next, ↓op_call, ↓op_builtin, ↓g_tt, ↓g_ff, ↓g_tf, ↓g_ft, ↓g_tnt, ↓g_tnf, ↓g_fnt, ↓g_fnf]
  have e1 := mul_abs_le (a := b - a) (b := part) (A := 100000000) (B := 1000) (by omega) (by omega) (by omega) (by omega)
  have e2 := between_bd (a := a) (b := b) (A := 0) (B := 100000000) h1 h2 h3 (by omega) (by omega)
  unfold betweenE at e2
  exact ⟨inK_of (by omega) (by omega), inK_of (by omega) (by omega), ⟨h3, by omega, by omega⟩, inK_of (by omega) (by omega), VEnt.of_eq rfl⟩

theorem sGeq_ok : Holds Proofs.Try.prog G0 85 geqC := by
  refine Holds.of_exC D85 Proofs.Try.func85 rfl foll (by kernel_rfl) (tab [(iceKey 2, iceC)]) (tab_ok ⟨ice_holds, trivial⟩) G0_ok fun k0 rl args hpu hpre => ?_
  unfold geqC at hpre ⊢
  split at hpre
  rotate_left
  · exact hpre.elim
  rename_i p n sz g power
  obtain ⟨rfl, hi⟩ := hpre
  have hp := hi.pu
  simp only [Proofs.Try.f85]
  simp (maxSteps := 4000000) only [go_sem, ↓op_move, ↓op_assign, ↓op_pick, ↓op_alloc, ↓op_box, ↓op_build, ↓op_buildSlice, ↓op_load, ↓op_store, ↓op_nilCheck, ↓op_bin, ↓op_un, ↓op_convert, ↓op_makeFunc, ↓op_makeSlice, ↓op_slice, ↓op_fieldAddr, ↓op_field, ↓op_indexAddr, ↓op_index, ↓op_extract, ↓op_range, ↓op_next, ↓op_call, ↓op_builtin, ↓g_tt, ↓g_ff, ↓g_tf, ↓g_ft, ↓g_tnt, ↓g_tnf, ↓g_fnt, ↓g_fnf, hp]
  exact VEnt.of_eq rfl

theorem sLess_ok : Holds Proofs.Try.prog G0 69 lessC := by
  refine Holds.of_exC D69 Proofs.Try.func69 rfl foll (by kernel_rfl) (tab [(iceKey 2, iceC), (iceKey 3, iceC)]) (tab_ok ⟨ice_holds, ice_holds, trivial⟩) G0_ok fun k0 rl args hpu hpre => ?_
  unfold lessC at hpre ⊢
  split at hpre
  rotate_left
  · exact hpre.elim
  rename_i x y z u v w
  obtain ⟨h1, h2, h3, h4, h5, h6⟩ := hpre
  simp only [Proofs.Try.f69]
  simp (maxSteps := 4000000) only [go_sem, ↓op_move, ↓op_assign, ↓op_pick, ↓op_alloc, ↓op_box, ↓op_build, ↓op_buildSlice, ↓op_load, ↓op_store, ↓op_nilCheck, ↓op_bin, ↓op_un, ↓op_convert, ↓op_makeFunc, ↓op_makeSlice, ↓op_slice, ↓op_fieldAddr, ↓op_field, ↓op_indexAddr, ↓op_index, ↓op_extract, ↓op_range, ↓op_next, ↓op_call, ↓op_builtin, ↓g_tt, ↓g_ff, ↓g_tf, ↓g_ft, ↓g_tnt, ↓g_tnf, ↓g_fnt, ↓g_fnf]
  exact ⟨inK_of (by omega) (by omega), inK_of (by omega) (by omega), inK_of (by omega) (by omega), VEnt.of_eq rfl⟩

theorem sSquares_ok : Holds Proofs.Try.prog G0 70 squares2C := by
  refine Holds.of_exC D70 Proofs.Try.func70 rfl foll (by kernel_rfl) (tab [(iceKey 1, iceC)]) (tab_ok ⟨ice_holds, trivial⟩) G0_ok fun k0 rl args hpu hpre => ?_
  unfold squares2C at hpre ⊢
  split at hpre
  rotate_left
  · exact hpre.elim
  rename_i x y z
  obtain ⟨h1, h2, h3⟩ := hpre
  simp only [Proofs.Try.f70]
  simp (maxSteps := 4000000) only [go_sem, ↓op_move, ↓op_assign, ↓op_pick, ↓op_alloc, ↓op_box, ↓op_build, ↓op_buildSlice, ↓op_load, ↓op_store, ↓op_nilCheck, ↓op_bin, ↓op_un, ↓op_convert, ↓op_makeFunc, ↓op_makeSlice, ↓op_slice, ↓op_fieldAddr, ↓op_field, ↓op_indexAddr, ↓op_index, ↓op_extract, ↓op_range, ↓op_next, ↓op_call, ↓op_builtin, ↓g_tt, ↓g_ff, ↓g_tf, ↓g_ft, ↓g_tnt, ↓g_tnf, ↓g_fnt, ↓g_fnf]
  have e1 := mul_abs_le h1.1 h1.2 h1.1 h1.2
  have e2 := mul_abs_le h2.1 h2.2 h2.1 h2.2
  have e3 := mul_abs_le h3.1 h3.2 h3.1 h3.2
  exact ⟨inK_of (by omega) (by omega), inK_of (by omega) (by omega), inK_of (by omega) (by omega), inK_of (by omega) (by omega), VEnt.of_eq rfl⟩

theorem sSector_ok : Holds Proofs.Try.prog G0 71 sectorC := by
  refine Holds.of_exC D71 Proofs.Try.func71 rfl foll (by kernel_rfl) (tab [(iceKey 2, iceC), (iceKey 3, iceC)]) (tab_ok ⟨ice_holds, ice_holds, trivial⟩) G0_ok fun k0 rl args hpu hpre => ?_
  unfold sectorC at hpre ⊢
  split at hpre
  rotate_left
  · exact hpre.elim
  rename_i hx hy x y
  obtain ⟨h1, h2, h3, h4⟩ := hpre
  simp only [Proofs.Try.f71]
  simp (maxSteps := 4000000) only [go_sem, ↓op_move, ↓op_assign, ↓op_pick, ↓op_alloc, ↓op_box, ↓op_build, ↓op_buildSlice, ↓op_load, ↓op_store, ↓op_nilCheck, ↓op_bin, ↓op_un, ↓op_convert, ↓op_makeFunc, ↓op_makeSlice, ↓op_slice, ↓op_fieldAddr, ↓op_field, ↓op_indexAddr, ↓op_index, ↓op_extract, ↓op_range, ↓op_next, ↓op_call, ↓op_builtin, ↓g_tt, ↓g_ff, ↓g_tf, ↓g_ft, ↓g_tnt, ↓g_tnf, ↓g_fnt, ↓g_fnf]
  have e1 := mul_abs_le h1.1 h1.2 h3.1 h3.2
  have e2 := mul_abs_le h2.1 h2.2 h4.1 h4.2
  have e3 := mul_abs_le h1.1 h1.2 h4.1 h4.2
  have e4 := mul_abs_le h2.1 h2.2 h3.1 h3.2
  refine ⟨inK_of (by omega) (by omega), inK_of (by omega) (by omega), inK_of (by omega) (by omega), inK_of (by omega) (by omega), inK_of (by omega) (by omega), inK_of (by omega) (by omega), ?_⟩
  unfold sectorE
  generalize hu : hx * x + hy * y = u0 at *
  generalize hv : hx * y - hy * x = v0 at *
  generalize hS : sec 4 0 u0 v0 = S at *
  refine RestT.loopI (β := Nat × Int × Int) [4, 30, 31, 32, 33, 34, 35, 36, 37, 38, 39, 40, 41, 42, 43, 44, 45, 46, 47, 48, 49, 50, 51, 52, 53, 54, 55, 56, 57, 58, 59, 60, 61, 62, 63] (fun b => [(5, .int .i64 b.2.1), (6, .int .i64 b.2.2), (7, .int .i64 (2 * b.1))]) (fun _ => fun _ => none)
    (fun b => b.1 ≤ 4 ∧ S = sec (4 - b.1) (2 * b.1) b.2.1 b.2.2 ∧ (-2000000000000 ≤ b.2.1 ∧ b.2.1 ≤ 2000000000000) ∧ -2000000000000 ≤ b.2.2 ∧ b.2.2 ≤ 2000000000000) (fun b => 4 - b.1) (0, u0, v0)
    ⟨Nat.zero_le _, hS.symm, (show -2000000000000 ≤ u0 ∧ u0 ≤ 2000000000000 by omega), (show -2000000000000 ≤ v0 ∧ v0 ≤ 2000000000000 by omega)⟩ ?_ HpLe.none ?_
  · simp (maxSteps := 4000000) only [go_sem, ↓op_move, ↓op_assign, ↓op_pick, ↓op_alloc, ↓op_box, ↓op_build, ↓op_buildSlice, ↓op_load, ↓op_store, ↓op_nilCheck, ↓op_bin, ↓op_un, ↓op_convert, ↓op_makeFunc, ↓op_makeSlice, ↓op_slice, ↓op_fieldAddr, ↓op_field, ↓op_indexAddr, ↓op_index, ↓op_extract, ↓op_range, ↓op_next, ↓op_call, ↓op_builtin, ↓g_tt, ↓g_ff, ↓g_tf, ↓g_ft, ↓g_tnt, ↓g_tnf, ↓g_fnt, ↓g_fnf]
    try simp
  · intro ck b hck hI
    obtain ⟨i, u, v⟩ := b
    have hi : i ≤ 4 := hI.1
    have hs : S = sec (4 - i) (2 * i) u v := hI.2.1
    have hu1 : -2000000000000 ≤ u ∧ u ≤ 2000000000000 := hI.2.2.1
    have hv1 : -2000000000000 ≤ v ∧ v ≤ 2000000000000 := hI.2.2.2
    clear hI
    generalize hq : exC _ _ _ _ _ = gg
    by_cases hlt : i < 4
    · have hd : decide ((2 : Int) * (i : Int) < 8) = true := by simp; omega
      rw [show 4 - i = (4 - (i + 1)) + 1 by omega] at hs
      unfold sec at hs
      rw [← hq]
      clear hq
      simp (maxSteps := 4000000) only [go_sem, ↓op_move, ↓op_assign, ↓op_pick, ↓op_alloc, ↓op_box, ↓op_build, ↓op_buildSlice, ↓op_load, ↓op_store, ↓op_nilCheck, ↓op_bin, ↓op_un, ↓op_convert, ↓op_makeFunc, ↓op_makeSlice, ↓op_slice, ↓op_fieldAddr, ↓op_field, ↓op_indexAddr, ↓op_index, ↓op_extract, ↓op_range, ↓op_next, ↓op_call, ↓op_builtin, ↓g_tt, ↓g_ff, ↓g_tf, ↓g_ft, ↓g_tnt, ↓g_tnf, ↓g_fnt, ↓g_fnf, hd]
      repeat' (first | with_reducible apply And.intro | (with_reducible refine impI fun _ => ?_))
      all_goals first
        | (exfalso; omega)
        | exact inK_of (by omega) (by omega)
        | exact VEnt.of_eq (by rw [hs]; first | rw [if_pos (by omega)] | rw [if_neg (by omega), if_pos (by omega)])
        | (refine ⟨(i + 1, v, -u), ⟨hlt, ?_, (show -2000000000000 ≤ v ∧ v ≤ 2000000000000 by omega), (show -2000000000000 ≤ -u ∧ -u ≤ 2000000000000 by omega)⟩, (show 4 - (i + 1) < 4 - i by omega), ⟨.inr rfl, .inr rfl, .inr ?_⟩, HpLe.none⟩
           · rw [hs, if_neg (by omega), if_neg (by omega)]
             show _ = sec (4 - (i + 1)) (2 * ((i + 1 : Nat) : Int)) v (-u)
             congr 1 <;> omega
           · show V.int .i64 _ = V.int .i64 (2 * ((i + 1 : Nat) : Int))
             congr 1 <;> omega)
    · have hd : decide ((2 : Int) * (i : Int) < 8) = false := by simp; omega
      rw [show 4 - i = 0 by omega] at hs
      rw [← hq]
      clear hq
      simp (maxSteps := 4000000) only [go_sem, ↓op_move, ↓op_assign, ↓op_pick, ↓op_alloc, ↓op_box, ↓op_build, ↓op_buildSlice, ↓op_load, ↓op_store, ↓op_nilCheck, ↓op_bin, ↓op_un, ↓op_convert, ↓op_makeFunc, ↓op_makeSlice, ↓op_slice, ↓op_fieldAddr, ↓op_field, ↓op_indexAddr, ↓op_index, ↓op_extract, ↓op_range, ↓op_next, ↓op_call, ↓op_builtin, ↓g_tt, ↓g_ff, ↓g_tf, ↓g_ft, ↓g_tnt, ↓g_tnf, ↓g_fnt, ↓g_fnf, hd]
      exact VEnt.of_eq (by rw [hs]; rfl)

theorem sBand_ok : Holds Proofs.Try.prog G0 46 bandC := by
  refine Holds.of_exC D46 Proofs.Try.func46 rfl foll (by kernel_rfl) (tab []) (tab_ok trivial) G0_ok fun k0 rl args hpu hpre => ?_
  unfold bandC at hpre ⊢
  split at hpre
  rotate_left
  · exact hpre.elim
  rename_i n e
  obtain ⟨h1, h2, h3, h4⟩ := hpre
  simp only [Proofs.Try.f46]
  simp (maxSteps := 4000000) only [go_sem, ↓op_move, ↓op_assign, ↓op_pick, ↓op_alloc, ↓op_box, ↓op_build, ↓op_buildSlice, ↓op_load, ↓op_store, ↓op_nilCheck, ↓op_bin, ↓op_un, ↓op_convert, ↓op_makeFunc, ↓op_makeSlice, ↓op_slice, ↓op_fieldAddr, ↓op_field, ↓op_indexAddr, ↓op_index, ↓op_extract, ↓op_range, ↓op_next, ↓op_call, ↓op_builtin, ↓g_tt, ↓g_ff, ↓g_tf, ↓g_ft, ↓g_tnt, ↓g_tnf, ↓g_fnt, ↓g_fnf]
  have e0 : e.tdiv 1000 = e / 1000 := Int.tdiv_eq_ediv_of_nonneg h3
  have e1 : e.tmod 1000 = e % 1000 := Int.tmod_eq_emod_of_nonneg h3
  have e2 := mul_le_of (a := e / 1000) (A := 10000000000) (by omega) (by omega) h1 h2
  have e3 := mul_le_of (a := e % 1000) (A := 1000) (by omega) (by omega) h1 h2
  have e4 : (e % 1000 * n).tdiv 1000 = e % 1000 * n / 1000 := Int.tdiv_eq_ediv_of_nonneg e3.1
  rw [e0, e1, e4]
  exact ⟨inK_of (by omega) (by omega), inK_of (by omega) (by omega), inK_of (by omega) (by omega), inK_of (by omega) (by omega), inK_of (by omega) (by omega), VEnt.of_eq rfl⟩

theorem sIdx_ok : Holds Proofs.Try.prog G0 84 (idxC 85) := by
  refine Holds.of_exC D84 Proofs.Try.func84 rfl foll (by kernel_rfl) (tab [(85, geqC)]) (tab_ok ⟨sGeq_ok, trivial⟩) G0_ok fun k0 rl args hpu hpre => ?_
  unfold idxC at hpre ⊢
  split at hpre
  rotate_left
  · exact hpre.elim
  rename_i n sz get g power
  obtain ⟨rfl, ⟨hn, hget⟩, rfl⟩ := hpre
  have hp := (show IsSet n get from ⟨hn, hget⟩).pu
  simp only [Proofs.Try.f84]
  simp (maxSteps := 4000000) only [go_sem, ↓op_move, ↓op_assign, ↓op_pick, ↓op_alloc, ↓op_box, ↓op_build, ↓op_buildSlice, ↓op_load, ↓op_store, ↓op_nilCheck, ↓op_bin, ↓op_un, ↓op_convert, ↓op_makeFunc, ↓op_makeSlice, ↓op_slice, ↓op_fieldAddr, ↓op_field, ↓op_indexAddr, ↓op_index, ↓op_extract, ↓op_range, ↓op_next, ↓op_call, ↓op_builtin, ↓g_tt, ↓g_ff, ↓g_tf, ↓g_ft, ↓g_tnt, ↓g_tnf, ↓g_fnt, ↓g_fnf, hp]
  refine RestT.loopI (β := Nat) [4, 5, 9, 10, 11, 12, 13, 14, 15, 16, 17, 18] (fun i => [(8, .int .i64 i)]) (fun _ => fun _ => none) (fun i => i ≤ n ∧ idxF (fun j => decide (power ≤ cell get j 0)) 0 n = idxF (fun j => decide (power ≤ cell get j 0)) i (n - i)) (fun i => n - i) 0 ⟨by omega, by simp⟩ ?_ HpLe.none ?_
  · simp (maxSteps := 4000000) only [go_sem, ↓op_move, ↓op_assign, ↓op_pick, ↓op_alloc, ↓op_box, ↓op_build, ↓op_buildSlice, ↓op_load, ↓op_store, ↓op_nilCheck, ↓op_bin, ↓op_un, ↓op_convert, ↓op_makeFunc, ↓op_makeSlice, ↓op_slice, ↓op_fieldAddr, ↓op_field, ↓op_indexAddr, ↓op_index, ↓op_extract, ↓op_range, ↓op_next, ↓op_call, ↓op_builtin, ↓g_tt, ↓g_ff, ↓g_tf, ↓g_ft, ↓g_tnt, ↓g_tnf, ↓g_fnt, ↓g_fnf]
    try simp
  · intro ck i hck hI
    have hi := hI.1
    have hf := hI.2
    simp (maxSteps := 4000000) only [go_sem, ↓op_move, ↓op_assign, ↓op_pick, ↓op_alloc, ↓op_box, ↓op_build, ↓op_buildSlice, ↓op_load, ↓op_store, ↓op_nilCheck, ↓op_bin, ↓op_un, ↓op_convert, ↓op_makeFunc, ↓op_makeSlice, ↓op_slice, ↓op_fieldAddr, ↓op_field, ↓op_indexAddr, ↓op_index, ↓op_extract, ↓op_range, ↓op_next, ↓op_call, ↓op_builtin, ↓g_tt, ↓g_ff, ↓g_tf, ↓g_ft, ↓g_tnt, ↓g_tnf, ↓g_fnt, ↓g_fnf]
    refine ⟨fun hlt => ?_, fun hge => ?_⟩
    · have hlt : i < n := by omega
      obtain ⟨hg, hin⟩ := hget i hlt
      have hp2 := hin.pu
      rw [idxF_step hlt] at hf
      simp (maxSteps := 4000000) only [go_sem, ↓op_move, ↓op_assign, ↓op_pick, ↓op_alloc, ↓op_box, ↓op_build, ↓op_buildSlice, ↓op_load, ↓op_store, ↓op_nilCheck, ↓op_bin, ↓op_un, ↓op_convert, ↓op_makeFunc, ↓op_makeSlice, ↓op_slice, ↓op_fieldAddr, ↓op_field, ↓op_indexAddr, ↓op_index, ↓op_extract, ↓op_range, ↓op_next, ↓op_call, ↓op_builtin, ↓g_tt, ↓g_ff, ↓g_tf, ↓g_ft, ↓g_tnt, ↓g_tnf, ↓g_fnt, ↓g_fnf, hg, hp2]
      refine ⟨by omega, hin, fun h => VEnt.of_eq ?_, fun h => ⟨inK_of (by omega) (by omega), i + 1, ⟨hlt, ?_⟩, by omega, .inr rfl, HpLe.none⟩⟩
      · rw [hf, if_pos (by simpa using h)]
      · rw [hf, if_neg (by simpa using h)]
    · rw [hf, idxF_end (by omega)]
      exact VEnt.of_eq rfl

theorem base_drop : ∀ {k : Nat}, k < 10 → (List.drop k [V.int .i64 10, .int .i64 13, .int .i64 16, .int .i64 20, .int .i64 25, .int .i64 32, .int .i64 40, .int .i64 50, .int .i64 63, .int .i64 79]).head? = some (.int .i64 (base10 k))
  | 0, _ | 1, _ | 2, _ | 3, _ | 4, _ | 5, _ | 6, _ | 7, _ | 8, _ | 9, _ => rfl
  | n + 10, h => by omega
theorem base10_bd (k : Int) : 10 ≤ base10 k ∧ base10 k ≤ 79 := by unfold base10; split <;> decide

theorem sMapBand_ok : Holds Proofs.Try.prog G0 45 (mapBandC 46) := by
  refine Holds.of_exC D45 Proofs.Try.func45 rfl foll (by kernel_rfl) (tab [(46, bandC)]) (tab_ok ⟨sBand_ok, trivial⟩) G0_ok fun k0 rl args hpu hpre => ?_
  unfold mapBandC at hpre ⊢
  split at hpre
  rotate_left
  · exact hpre.elim
  rename_i n sz get g e
  obtain ⟨rfl, ⟨hn, hget⟩, hn2, rfl, hb, he1, he2⟩ := hpre
  simp only [Proofs.Try.f45]
  simp (maxSteps := 4000000) only [go_sem, ↓op_move, ↓op_assign, ↓op_pick, ↓op_alloc, ↓op_box, ↓op_build, ↓op_buildSlice, ↓op_load, ↓op_store, ↓op_nilCheck, ↓op_bin, ↓op_un, ↓op_convert, ↓op_makeFunc, ↓op_makeSlice, ↓op_slice, ↓op_fieldAddr, ↓op_field, ↓op_indexAddr, ↓op_index, ↓op_extract, ↓op_range, ↓op_next, ↓op_call, ↓op_builtin, ↓g_tt, ↓g_ff, ↓g_tf, ↓g_ft, ↓g_tnt, ↓g_tnf, ↓g_fnt, ↓g_fnf]
  refine RestT.ents (Ents.nilArr (d := 5) (l := (4, 1000)) 1 (fun _ => []) rfl rfl rfl) ?_
  simp (maxSteps := 4000000) only [go_sem, ↓op_move, ↓op_assign, ↓op_pick, ↓op_alloc, ↓op_box, ↓op_build, ↓op_buildSlice, ↓op_load, ↓op_store, ↓op_nilCheck, ↓op_bin, ↓op_un, ↓op_convert, ↓op_makeFunc, ↓op_makeSlice, ↓op_slice, ↓op_fieldAddr, ↓op_field, ↓op_indexAddr, ↓op_index, ↓op_extract, ↓op_range, ↓op_next, ↓op_call, ↓op_builtin, ↓g_tt, ↓g_ff, ↓g_tf, ↓g_ft, ↓g_tnt, ↓g_tnf, ↓g_fnt, ↓g_fnf]
  refine RestT.loopI (β := Nat) [7, 11, 12, 13, 14, 15, 16, 17, 18, 19, 20] (fun i => [(5, .msl (4, 1000) 0 i), (10, .int .i64 i)]) (fun i => updH (fun _ => none) (4, 1000) (.arr i 1 (fun i => [.int .i64 (bandE e (intAt get i))]))) (fun i => i ≤ n) (fun i => n - i) 0 (Nat.zero_le _) ?_
    (HpLe.arr1 (updH_same _ _ _) rfl rfl fun i hi => by omega) ?_
  · simp (maxSteps := 4000000) only [go_sem, ↓op_move, ↓op_assign, ↓op_pick, ↓op_alloc, ↓op_box, ↓op_build, ↓op_buildSlice, ↓op_load, ↓op_store, ↓op_nilCheck, ↓op_bin, ↓op_un, ↓op_convert, ↓op_makeFunc, ↓op_makeSlice, ↓op_slice, ↓op_fieldAddr, ↓op_field, ↓op_indexAddr, ↓op_index, ↓op_extract, ↓op_range, ↓op_next, ↓op_call, ↓op_builtin, ↓g_tt, ↓g_ff, ↓g_tf, ↓g_ft, ↓g_tnt, ↓g_tnf, ↓g_fnt, ↓g_fnf]
    try simp
  · intro ck i hck hi
    simp (maxSteps := 4000000) only [go_sem, ↓op_move, ↓op_assign, ↓op_pick, ↓op_alloc, ↓op_box, ↓op_build, ↓op_buildSlice, ↓op_load, ↓op_store, ↓op_nilCheck, ↓op_bin, ↓op_un, ↓op_convert, ↓op_makeFunc, ↓op_makeSlice, ↓op_slice, ↓op_fieldAddr, ↓op_field, ↓op_indexAddr, ↓op_index, ↓op_extract, ↓op_range, ↓op_next, ↓op_call, ↓op_builtin, ↓g_tt, ↓g_ff, ↓g_tf, ↓g_ft, ↓g_tnt, ↓g_tnf, ↓g_fnt, ↓g_fnf]
    refine ⟨fun hlt => ?_, fun hge => ?_⟩
    · have hlt : i < n := by omega
      have hg := hget i hlt
      have hbi := hb i hlt
      simp (maxSteps := 4000000) only [go_sem, ↓op_move, ↓op_assign, ↓op_pick, ↓op_alloc, ↓op_box, ↓op_build, ↓op_buildSlice, ↓op_load, ↓op_store, ↓op_nilCheck, ↓op_bin, ↓op_un, ↓op_convert, ↓op_makeFunc, ↓op_makeSlice, ↓op_slice, ↓op_fieldAddr, ↓op_field, ↓op_indexAddr, ↓op_index, ↓op_extract, ↓op_range, ↓op_next, ↓op_call, ↓op_builtin, ↓g_tt, ↓g_ff, ↓g_tf, ↓g_ft, ↓g_tnt, ↓g_tnf, ↓g_fnt, ↓g_fnf, hg]
      refine ⟨by omega, ⟨by omega, by omega, he1, he2⟩, ⟨by omega, by omega, row_ok rfl ones1⟩, inK_of (by omega) (by omega), i + 1, hlt, by omega, ⟨.inr rfl, .inr rfl⟩, HpLe.arr1 (updH_same _ _ _) rfl rfl fun j hj => snoc (f := fun i => [.int .i64 (bandE e (intAt get i))]) rfl rfl hj⟩
    · have : i = n := by omega
      subst this
      exact ⟨_, _, _, _, _, rfl, if_pos rfl, fun _ _ => rfl, rfl, by simp [rnT, rnV], (pu_sl1 _ _ _ _).2 trivial⟩

end Go.Fly.Try
