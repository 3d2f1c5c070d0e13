/- The air: simple functions. -/
import Derived.Test.YtfpoimbidpojnaaGreatDoorSYZBC
import Derived.Test.YtfpoimbidpojnaaGreatDoorAI
set_option linter.unusedSimpArgs false
set_option linter.unusedVariables false
set_option maxRecDepth 100000
set_option maxHeartbeats 1000000
namespace Go.Fly.Tryz
open Go

theorem mSqrt_ok : Holds Proofs.Tryz.prog G0 72 sqrtC := by
  refine Holds.of_exC D72 Proofs.Tryz.func72 rfl foll (by kernel_rfl) (tab []) (tab_ok trivial) G0_ok fun k0 rl args hpu hpre => ?_
  unfold sqrtC at hpre ⊢
  split at hpre
  rotate_left
  · exact hpre.elim
  rename_i x
  obtain ⟨r, hr⟩ := Option.isSome_iff_exists.1 hpre
  simp only [Proofs.Tryz.f72]
  simp (maxSteps := 4000000) only [go_sem, ↓op_move, ↓op_assign, ↓op_pick, ↓op_alloc, ↓op_box, ↓op_build, ↓op_buildSlice, ↓op_load, ↓op_store, ↓op_nilCheck, ↓op_bin, ↓op_un, ↓op_convert, ↓op_makeFunc, ↓op_makeSlice, ↓op_slice, ↓op_fieldAddr, ↓op_field, ↓op_indexAddr, ↓op_index, ↓op_extract, ↓op_lookup, ↓op_mapUpdate, ↓op_makeMap, ↓op_range, ↓op_next, ↓op_call, ↓op_builtin, ↓g_tt, ↓g_ff, ↓g_tf, ↓g_ft, ↓g_tnt, ↓g_tnf, ↓g_fnt, ↓g_fnf]
  refine .inr ⟨.flt .f64 r, fun k vs ⟨hs, hv⟩ _ _ => ?_, ?_⟩
  · obtain ⟨v0, rfl⟩ : ∃ v0, vs = #[v0] := by
      have : vs.size = 1 := hs
      match vs, this with
      | ⟨[v]⟩, _ => exact ⟨v, rfl⟩
    have h0 := hv 0 _ rfl
    have h0 := h0.flt_inv
    have h1 : v0 = .float .f64 x := h0
    subst h1
    refine ⟨.float .f64 r, ?_, .flt _ _⟩
    rw [run_callFunc_extern (fn := Proofs.Tryz.f96) (e := Extern.MathSqrt.sqrt) rfl (by decide) rfl (by rfl) (by rfl)]
    rw [show Extern.MathSqrt.sqrt #[Value.float .f64 x] = (match FloatKind.f64.format.sqrt x with | some r => pure (Value.float .f64 r) | none => do pure (Value.float .f64 (← choose (.nanBits .f64 x x)))) from rfl, hr]
    rfl
  · simp only [go_sem, ↓op_move, ↓op_assign, ↓op_pick, ↓op_alloc, ↓op_box, ↓op_build, ↓op_buildSlice, ↓op_load, ↓op_store, ↓op_nilCheck, ↓op_bin, ↓op_un, ↓op_convert, ↓op_makeFunc, ↓op_makeSlice, ↓op_slice, ↓op_fieldAddr, ↓op_field, ↓op_indexAddr, ↓op_index, ↓op_extract, ↓op_lookup, ↓op_mapUpdate, ↓op_makeMap, ↓op_range, ↓op_next, ↓op_call, ↓op_builtin, ↓g_tt, ↓g_ff, ↓g_tf, ↓g_ft, ↓g_tnt, ↓g_tnf, ↓g_fnt, ↓g_fnf]
    exact VEnt.of_eq (by rw [hr]; rfl)

theorem aDn_ok : Holds Proofs.Tryz.prog G0 88 divDnC := by
  refine Holds.of_exC D88 Proofs.Tryz.func88 rfl foll (by kernel_rfl) (tab []) (tab_ok trivial) G0_ok fun k0 rl args hpu hpre => ?_
  unfold divDnC at hpre ⊢
  split at hpre
  rotate_left
  · exact hpre.elim
  rename_i a b
  obtain ⟨h1, h2, h3, h4⟩ := hpre
  simp only [Proofs.Tryz.f88]
  simp (maxSteps := 4000000) only [go_sem, ↓op_move, ↓op_assign, ↓op_pick, ↓op_alloc, ↓op_box, ↓op_build, ↓op_buildSlice, ↓op_load, ↓op_store, ↓op_nilCheck, ↓op_bin, ↓op_un, ↓op_convert, ↓op_makeFunc, ↓op_makeSlice, ↓op_slice, ↓op_fieldAddr, ↓op_field, ↓op_indexAddr, ↓op_index, ↓op_extract, ↓op_lookup, ↓op_mapUpdate, ↓op_makeMap, ↓op_range, ↓op_next, ↓op_call, ↓op_builtin, ↓g_tt, ↓g_ff, ↓g_tf, ↓g_ft, ↓g_tnt, ↓g_tnf, ↓g_fnt, ↓g_fnf]
  rw [Int.tdiv_eq_ediv_of_nonneg h1]
  have := Int.ediv_nonneg h1 (show 0 ≤ b by omega)
  have := Int.ediv_le_self b h1
  exact ⟨⟨by omega, inK_of (by omega) (by omega)⟩, VEnt.of_eq rfl⟩

theorem aUp_ok : Holds Proofs.Tryz.prog G0 89 divUpC := by
  refine Holds.of_exC D89 Proofs.Tryz.func89 rfl foll (by kernel_rfl) (tab []) (tab_ok trivial) G0_ok fun k0 rl args hpu hpre => ?_
  unfold divUpC at hpre ⊢
  split at hpre
  rotate_left
  · exact hpre.elim
  rename_i a b
  obtain ⟨h1, h2, h3, h4⟩ := hpre
  simp only [Proofs.Tryz.f89]
  simp (maxSteps := 4000000) only [go_sem, ↓op_move, ↓op_assign, ↓op_pick, ↓op_alloc, ↓op_box, ↓op_build, ↓op_buildSlice, ↓op_load, ↓op_store, ↓op_nilCheck, ↓op_bin, ↓op_un, ↓op_convert, ↓op_makeFunc, ↓op_makeSlice, ↓op_slice, ↓op_fieldAddr, ↓op_field, ↓op_indexAddr, ↓op_index, ↓op_extract, ↓op_lookup, ↓op_mapUpdate, ↓op_makeMap, ↓op_range, ↓op_next, ↓op_call, ↓op_builtin, ↓g_tt, ↓g_ff, ↓g_tf, ↓g_ft, ↓g_tnt, ↓g_tnf, ↓g_fnt, ↓g_fnf]
  rw [Int.tdiv_eq_ediv_of_nonneg (show 0 ≤ a + b - 1 by omega)]
  have := Int.ediv_nonneg (show 0 ≤ a + b - 1 by omega) (show 0 ≤ b by omega)
  have := Int.ediv_le_self b (show 0 ≤ a + b - 1 by omega)
  exact ⟨inK_of (by omega) (by omega), inK_of (by omega) (by omega), ⟨by omega, inK_of (by omega) (by omega)⟩, VEnt.of_eq rfl⟩

theorem aRounds_ok : Holds Proofs.Tryz.prog G0 57 (roundsC 88 89) := by
  refine Holds.of_exC D57 Proofs.Tryz.func57 rfl foll (by kernel_rfl) (tab [(88, divDnC), (89, divUpC)]) (tab_ok ⟨aDn_ok, aUp_ok, trivial⟩) G0_ok fun k0 rl args hpu hpre => ?_
  unfold roundsC at hpre ⊢
  split at hpre
  rotate_left
  · exact hpre.elim
  simp only [Proofs.Tryz.f57]
  simp (maxSteps := 4000000) only [go_sem, ↓op_move, ↓op_assign, ↓op_pick, ↓op_alloc, ↓op_box, ↓op_build, ↓op_buildSlice, ↓op_load, ↓op_store, ↓op_nilCheck, ↓op_bin, ↓op_un, ↓op_convert, ↓op_makeFunc, ↓op_makeSlice, ↓op_slice, ↓op_fieldAddr, ↓op_field, ↓op_indexAddr, ↓op_index, ↓op_extract, ↓op_lookup, ↓op_mapUpdate, ↓op_makeMap, ↓op_range, ↓op_next, ↓op_call, ↓op_builtin, ↓g_tt, ↓g_ff, ↓g_tf, ↓g_ft, ↓g_tnt, ↓g_tnf, ↓g_fnt, ↓g_fnf]
  exact VEnt.of_eq rfl

theorem aDirect_ok : Holds Proofs.Tryz.prog G0 49 directC := by
  refine Holds.of_exC D49 Proofs.Tryz.func49 rfl foll (by kernel_rfl) (tab [(iceKey 1, iceC)]) (tab_ok ⟨ice_holds, trivial⟩) G0_ok fun k0 rl args hpu hpre => ?_
  unfold directC at hpre ⊢
  split at hpre
  rotate_left
  · exact hpre.elim
  rename_i a b c d e f
  obtain ⟨⟨h1, h2, h3⟩, ⟨h4, h5, h6⟩, -⟩ := hpre
  simp only [Proofs.Tryz.f49]
  simp (maxSteps := 4000000) only [go_sem, ↓op_move, ↓op_assign, ↓op_pick, ↓op_alloc, ↓op_box, ↓op_build, ↓op_buildSlice, ↓op_load, ↓op_store, ↓op_nilCheck, ↓op_bin, ↓op_un, ↓op_convert, ↓op_makeFunc, ↓op_makeSlice, ↓op_slice, ↓op_fieldAddr, ↓op_field, ↓op_indexAddr, ↓op_index, ↓op_extract, ↓op_lookup, ↓op_mapUpdate, ↓op_makeMap, ↓op_range, ↓op_next, ↓op_call, ↓op_builtin, ↓g_tt, ↓g_ff, ↓g_tf, ↓g_ft, ↓g_tnt, ↓g_tnf, ↓g_fnt, ↓g_fnf]
  exact ⟨inK_of (by omega) (by omega), inK_of (by omega) (by omega), VEnt.of_eq rfl⟩

theorem aStraight_ok : Holds Proofs.Tryz.prog G0 25 straightC := by
  refine Holds.of_exC D25 Proofs.Tryz.func25 rfl foll (by kernel_rfl) (tab [(49, directC), (iceKey 1, iceC)]) (tab_ok ⟨aDirect_ok, ice_holds, trivial⟩) G0_ok fun k0 rl args hpu hpre => ?_
  unfold straightC at hpre ⊢
  split at hpre
  rotate_left
  · exact hpre.elim
  rename_i a b c d e f
  have hbd := sqE_bd hpre
  obtain ⟨⟨h1, h2, h3⟩, ⟨h4, h5, h6⟩, h7⟩ := hpre
  simp only [Proofs.Tryz.f25]
  simp (maxSteps := 4000000) only [go_sem, ↓op_move, ↓op_assign, ↓op_pick, ↓op_alloc, ↓op_box, ↓op_build, ↓op_buildSlice, ↓op_load, ↓op_store, ↓op_nilCheck, ↓op_bin, ↓op_un, ↓op_convert, ↓op_makeFunc, ↓op_makeSlice, ↓op_slice, ↓op_fieldAddr, ↓op_field, ↓op_indexAddr, ↓op_index, ↓op_extract, ↓op_lookup, ↓op_mapUpdate, ↓op_makeMap, ↓op_range, ↓op_next, ↓op_call, ↓op_builtin, ↓g_tt, ↓g_ff, ↓g_tf, ↓g_ft, ↓g_tnt, ↓g_tnf, ↓g_fnt, ↓g_fnf]
  have e1 := mul_abs_le (a := d - a) (b := d - a) (A := 20000) (B := 20000) (by omega) (by omega) (by omega) (by omega)
  have e2 := mul_abs_le (a := e - b) (b := e - b) (A := 20000) (B := 20000) (by omega) (by omega) (by omega) (by omega)
  have e3 := mul_abs_le (a := f - c) (b := f - c) (A := 10000) (B := 10000) (by omega) (by omega) (by omega) (by omega)
  exact ⟨⟨⟨h1, h2, h3⟩, ⟨h4, h5, h6⟩, h7⟩, inK_of (by omega) (by omega), inK_of (by omega) (by omega), inK_of (by omega) (by omega), inK_of (by omega) (by omega), inK_of (by omega) (by omega), inK_of (by omega) (by omega), VEnt.of_eq rfl⟩

theorem aOver_ok : Holds Proofs.Tryz.prog G0 60 overC := by
  refine Holds.of_exC D60 Proofs.Tryz.func60 rfl foll (by kernel_rfl) (tab [(iceKey 3, iceC)]) (tab_ok ⟨ice_holds, trivial⟩) G0_ok fun k0 rl args hpu hpre => ?_
  unfold overC at hpre ⊢
  split at hpre
  rotate_left
  · exact hpre.elim
  rename_i th sp wx wy m sz g bot top lo hi
  obtain ⟨h1, h2, h3, h4, hp⟩ := hpre
  simp only [Proofs.Tryz.f60]
  simp (maxSteps := 4000000) only [go_sem, ↓op_move, ↓op_assign, ↓op_pick, ↓op_alloc, ↓op_box, ↓op_build, ↓op_buildSlice, ↓op_load, ↓op_store, ↓op_nilCheck, ↓op_bin, ↓op_un, ↓op_convert, ↓op_makeFunc, ↓op_makeSlice, ↓op_slice, ↓op_fieldAddr, ↓op_field, ↓op_indexAddr, ↓op_index, ↓op_extract, ↓op_lookup, ↓op_mapUpdate, ↓op_makeMap, ↓op_range, ↓op_next, ↓op_call, ↓op_builtin, ↓g_tt, ↓g_ff, ↓g_tf, ↓g_ft, ↓g_tnt, ↓g_tnf, ↓g_fnt, ↓g_fnf, hp]
  exact ⟨inK_of (by omega) (by omega), VEnt.of_eq rfl⟩

theorem aRoot_ok : Holds Proofs.Tryz.prog G0 48 rootC := by
  refine Holds.of_exC D48 Proofs.Tryz.func48 rfl foll (by kernel_rfl) (tab [(72, sqrtC)]) (tab_ok ⟨mSqrt_ok, trivial⟩) G0_ok fun k0 rl args hpu hpre => ?_
  unfold rootC at hpre ⊢
  split at hpre
  rotate_left
  · exact hpre.elim
  rename_i s t
  obtain ⟨h1, h2, h3, h4⟩ := hpre
  obtain ⟨S, rfl⟩ := Int.eq_ofNat_of_zero_le h1
  obtain ⟨T, rfl⟩ := Int.eq_ofNat_of_zero_le (Int.le_of_lt h3)
  obtain ⟨q, r, n, e1, e2, e3, hn⟩ := guess_ok S T (by omega) (by omega) (by omega)
  simp only [Proofs.Tryz.f48]
  simp (maxSteps := 4000000) only [go_sem, ↓op_move, ↓op_assign, ↓op_pick, ↓op_alloc, ↓op_box, ↓op_build, ↓op_buildSlice, ↓op_load, ↓op_store, ↓op_nilCheck, ↓op_bin, ↓op_un, ↓op_convert, ↓op_makeFunc, ↓op_makeSlice, ↓op_slice, ↓op_fieldAddr, ↓op_field, ↓op_indexAddr, ↓op_index, ↓op_extract, ↓op_lookup, ↓op_mapUpdate, ↓op_makeMap, ↓op_range, ↓op_next, ↓op_call, ↓op_builtin, ↓g_tt, ↓g_ff, ↓g_tf, ↓g_ft, ↓g_tnt, ↓g_tnf, ↓g_fnt, ↓g_fnf, e1, e2, e3]
  have sqb : ∀ {m c : Nat}, m * m * T ≤ c → m * m ≤ c ∧ m ≤ c := fun {m c} h => by
    have a1 : m * m ≤ m * m * T := Nat.le_mul_of_pos_right _ (by omega)
    have a2 : m ≤ m * m := Nat.le_mul_self m
    omega
  have hn2 := sqb hn
  have cst : ∀ m : Nat, ((m : Int) * m * T) = ((m * m * T : Nat) : Int) := fun m => by simp
  refine ⟨inK_of (by omega) (by omega), ?_⟩
  refine RestT.loopI (β := Nat) [13, 14, 15, 16, 17, 18, 19, 20, 21, 22, 23, 24, 25] (fun m => [(5, .int .i64 m)]) (fun _ => fun _ => none) (fun m => m * m * T ≤ 3 * S) (fun m => m) n hn ?_ HpLe.none ?_
  · simp (maxSteps := 4000000) only [go_sem, ↓op_move, ↓op_assign, ↓op_pick, ↓op_alloc, ↓op_box, ↓op_build, ↓op_buildSlice, ↓op_load, ↓op_store, ↓op_nilCheck, ↓op_bin, ↓op_un, ↓op_convert, ↓op_makeFunc, ↓op_makeSlice, ↓op_slice, ↓op_fieldAddr, ↓op_field, ↓op_indexAddr, ↓op_index, ↓op_extract, ↓op_lookup, ↓op_mapUpdate, ↓op_makeMap, ↓op_range, ↓op_next, ↓op_call, ↓op_builtin, ↓g_tt, ↓g_ff, ↓g_tf, ↓g_ft, ↓g_tnt, ↓g_tnf, ↓g_fnt, ↓g_fnf]
    try simp
  · intro ck m hck hm
    generalize hq0 : exC _ _ _ _ _ = gg
    have hm2 := sqb hm
    have hmm : ((m : Int) * m) = ((m * m : Nat) : Int) := by simp
    by_cases hgo : 0 < m ∧ S < m * m * T
    · have d1 : decide ((0 : Int) < (m : Int)) = true := by simp; omega
      have d2 : decide ((S : Int) < ((m * m * T : Nat) : Int)) = true := decide_eq_true (Int.ofNat_lt.2 hgo.2)
      rw [← hq0]
      clear hq0
      simp (maxSteps := 4000000) only [go_sem, ↓op_move, ↓op_assign, ↓op_pick, ↓op_alloc, ↓op_box, ↓op_build, ↓op_buildSlice, ↓op_load, ↓op_store, ↓op_nilCheck, ↓op_bin, ↓op_un, ↓op_convert, ↓op_makeFunc, ↓op_makeSlice, ↓op_slice, ↓op_fieldAddr, ↓op_field, ↓op_indexAddr, ↓op_index, ↓op_extract, ↓op_lookup, ↓op_mapUpdate, ↓op_makeMap, ↓op_range, ↓op_next, ↓op_call, ↓op_builtin, ↓g_tt, ↓g_ff, ↓g_tf, ↓g_ft, ↓g_tnt, ↓g_tnf, ↓g_fnt, ↓g_fnf, cst m, d1, d2]
      refine ⟨by rw [hmm]; exact inK_of (by omega) (by omega), inK_of (by omega) (by omega), inK_of (by omega) (by omega), by omega, m - 1, ?_, by omega, .inr ?_, HpLe.none⟩
      · have h5 : (m - 1) * (m - 1) * T ≤ m * m * T := Nat.mul_le_mul_right _ (Nat.mul_le_mul (by omega) (by omega))
        omega
      · congr 1
        omega
    · have hle : m * m * T ≤ S := by
        rcases Nat.eq_zero_or_pos m with z | z
        · simp [z]
        · omega
      have hb : decide ((0 : Int) < (m : Int)) = false ∨ (decide ((0 : Int) < (m : Int)) = true ∧ decide ((S : Int) < ((m * m * T : Nat) : Int)) = false) := by
        rcases Nat.eq_zero_or_pos m with z | z
        · exact .inl (decide_eq_false (by omega))
        · exact .inr ⟨decide_eq_true (by omega), decide_eq_false (fun q => by have := Int.ofNat_lt.1 q; omega)⟩
      rcases hb with d1 | ⟨d1, d2⟩
      · rw [← hq0]
        clear hq0
        simp (maxSteps := 4000000) only [go_sem, ↓op_move, ↓op_assign, ↓op_pick, ↓op_alloc, ↓op_box, ↓op_build, ↓op_buildSlice, ↓op_load, ↓op_store, ↓op_nilCheck, ↓op_bin, ↓op_un, ↓op_convert, ↓op_makeFunc, ↓op_makeSlice, ↓op_slice, ↓op_fieldAddr, ↓op_field, ↓op_indexAddr, ↓op_index, ↓op_extract, ↓op_lookup, ↓op_mapUpdate, ↓op_makeMap, ↓op_range, ↓op_next, ↓op_call, ↓op_builtin, ↓g_tt, ↓g_ff, ↓g_tf, ↓g_ft, ↓g_tnt, ↓g_tnf, ↓g_fnt, ↓g_fnf, cst m, d1]
        refine RestT.loopI (β := Nat) [26, 27, 28, 29, 30, 31, 32, 33, 34, 35, 36] (fun j => [(5, .int .i64 j)]) (fun _ => fun _ => none) (fun j => j * j * T ≤ S) (fun j => S - j) m hle ?_ HpLe.none ?_
        · simp (maxSteps := 4000000) only [go_sem, ↓op_move, ↓op_assign, ↓op_pick, ↓op_alloc, ↓op_box, ↓op_build, ↓op_buildSlice, ↓op_load, ↓op_store, ↓op_nilCheck, ↓op_bin, ↓op_un, ↓op_convert, ↓op_makeFunc, ↓op_makeSlice, ↓op_slice, ↓op_fieldAddr, ↓op_field, ↓op_indexAddr, ↓op_index, ↓op_extract, ↓op_lookup, ↓op_mapUpdate, ↓op_makeMap, ↓op_range, ↓op_next, ↓op_call, ↓op_builtin, ↓g_tt, ↓g_ff, ↓g_tf, ↓g_ft, ↓g_tnt, ↓g_tnf, ↓g_fnt, ↓g_fnf]
          try simp
        · intro ck2 j hck2 hj
          have hj2 := sqb hj
          have cst1 : ((j : Int) + 1) * ((j : Int) + 1) * T = (((j + 1) * (j + 1) * T : Nat) : Int) := by simp
          have cst2 : ((j : Int) + 1) * ((j : Int) + 1) = (((j + 1) * (j + 1) : Nat) : Int) := by simp
          have hb4 : (j + 1) * (j + 1) * T ≤ 4 * S + 4000000000000 := by
            rcases Nat.eq_zero_or_pos j with z | z
            · subst z; simp; omega
            · have : (j + 1) * (j + 1) * T ≤ (2 * j) * (2 * j) * T := Nat.mul_le_mul_right _ (Nat.mul_le_mul (by omega) (by omega))
              have e : (2 * j) * (2 * j) * T = 4 * (j * j * T) := by rw [Nat.mul_mul_mul_comm]; rw [Nat.mul_assoc]
              omega
          have hb5 := (sqb hb4).1
          generalize hq1 : exC _ _ _ _ _ = gg
          by_cases hgo : (j + 1) * (j + 1) * T ≤ S
          · have d3 : decide ((((j + 1) * (j + 1) * T : Nat) : Int) ≤ (S : Int)) = true := decide_eq_true (Int.ofNat_le.2 hgo)
            rw [← hq1]
            clear hq1
            simp (maxSteps := 4000000) only [go_sem, ↓op_move, ↓op_assign, ↓op_pick, ↓op_alloc, ↓op_box, ↓op_build, ↓op_buildSlice, ↓op_load, ↓op_store, ↓op_nilCheck, ↓op_bin, ↓op_un, ↓op_convert, ↓op_makeFunc, ↓op_makeSlice, ↓op_slice, ↓op_fieldAddr, ↓op_field, ↓op_indexAddr, ↓op_index, ↓op_extract, ↓op_lookup, ↓op_mapUpdate, ↓op_makeMap, ↓op_range, ↓op_next, ↓op_call, ↓op_builtin, ↓g_tt, ↓g_ff, ↓g_tf, ↓g_ft, ↓g_tnt, ↓g_tnf, ↓g_fnt, ↓g_fnf, cst1, d3]
            have := (sqb hgo).2
            exact ⟨inK_of (by omega) (by omega), inK_of (by omega) (by omega), by rw [cst2]; exact inK_of (by omega) (by omega), inK_of (by omega) (by omega), inK_of (by omega) (by omega), by omega, j + 1, hgo, by omega, .inr rfl, HpLe.none⟩
          · have d3 : decide ((((j + 1) * (j + 1) * T : Nat) : Int) ≤ (S : Int)) = false := decide_eq_false (fun q => hgo (Int.ofNat_le.1 q))
            rw [← hq1]
            clear hq1
            simp (maxSteps := 4000000) only [go_sem, ↓op_move, ↓op_assign, ↓op_pick, ↓op_alloc, ↓op_box, ↓op_build, ↓op_buildSlice, ↓op_load, ↓op_store, ↓op_nilCheck, ↓op_bin, ↓op_un, ↓op_convert, ↓op_makeFunc, ↓op_makeSlice, ↓op_slice, ↓op_fieldAddr, ↓op_field, ↓op_indexAddr, ↓op_index, ↓op_extract, ↓op_lookup, ↓op_mapUpdate, ↓op_makeMap, ↓op_range, ↓op_next, ↓op_call, ↓op_builtin, ↓g_tt, ↓g_ff, ↓g_tf, ↓g_ft, ↓g_tnt, ↓g_tnf, ↓g_fnt, ↓g_fnf, cst1, d3]
            refine ⟨inK_of (by omega) (by omega), inK_of (by omega) (by omega), by rw [cst2]; exact inK_of (by omega) (by omega), inK_of (by omega) (by omega), VEnt.of_eq ?_⟩
            rw [rootE_eq (n := j) h1 h3 (by rw [cst]; exact Int.ofNat_le.2 hj) (by rw [cst1]; exact Int.ofNat_lt.2 (by omega))]
      · rw [← hq0]
        clear hq0
        simp (maxSteps := 4000000) only [go_sem, ↓op_move, ↓op_assign, ↓op_pick, ↓op_alloc, ↓op_box, ↓op_build, ↓op_buildSlice, ↓op_load, ↓op_store, ↓op_nilCheck, ↓op_bin, ↓op_un, ↓op_convert, ↓op_makeFunc, ↓op_makeSlice, ↓op_slice, ↓op_fieldAddr, ↓op_field, ↓op_indexAddr, ↓op_index, ↓op_extract, ↓op_lookup, ↓op_mapUpdate, ↓op_makeMap, ↓op_range, ↓op_next, ↓op_call, ↓op_builtin, ↓g_tt, ↓g_ff, ↓g_tf, ↓g_ft, ↓g_tnt, ↓g_tnf, ↓g_fnt, ↓g_fnf, cst m, d1, d2]
        refine ⟨by rw [hmm]; exact inK_of (by omega) (by omega), inK_of (by omega) (by omega), ?_⟩
        refine RestT.loopI (β := Nat) [26, 27, 28, 29, 30, 31, 32, 33, 34, 35, 36] (fun j => [(5, .int .i64 j)]) (fun _ => fun _ => none) (fun j => j * j * T ≤ S) (fun j => S - j) m hle ?_ HpLe.none ?_
        · simp (maxSteps := 4000000) only [go_sem, ↓op_move, ↓op_assign, ↓op_pick, ↓op_alloc, ↓op_box, ↓op_build, ↓op_buildSlice, ↓op_load, ↓op_store, ↓op_nilCheck, ↓op_bin, ↓op_un, ↓op_convert, ↓op_makeFunc, ↓op_makeSlice, ↓op_slice, ↓op_fieldAddr, ↓op_field, ↓op_indexAddr, ↓op_index, ↓op_extract, ↓op_lookup, ↓op_mapUpdate, ↓op_makeMap, ↓op_range, ↓op_next, ↓op_call, ↓op_builtin, ↓g_tt, ↓g_ff, ↓g_tf, ↓g_ft, ↓g_tnt, ↓g_tnf, ↓g_fnt, ↓g_fnf]
          try simp
        · intro ck2 j hck2 hj
          have hj2 := sqb hj
          have cst1 : ((j : Int) + 1) * ((j : Int) + 1) * T = (((j + 1) * (j + 1) * T : Nat) : Int) := by simp
          have cst2 : ((j : Int) + 1) * ((j : Int) + 1) = (((j + 1) * (j + 1) : Nat) : Int) := by simp
          have hb4 : (j + 1) * (j + 1) * T ≤ 4 * S + 4000000000000 := by
            rcases Nat.eq_zero_or_pos j with z | z
            · subst z; simp; omega
            · have : (j + 1) * (j + 1) * T ≤ (2 * j) * (2 * j) * T := Nat.mul_le_mul_right _ (Nat.mul_le_mul (by omega) (by omega))
              have e : (2 * j) * (2 * j) * T = 4 * (j * j * T) := by rw [Nat.mul_mul_mul_comm]; rw [Nat.mul_assoc]
              omega
          have hb5 := (sqb hb4).1
          generalize hq1 : exC _ _ _ _ _ = gg
          by_cases hgo : (j + 1) * (j + 1) * T ≤ S
          · have d3 : decide ((((j + 1) * (j + 1) * T : Nat) : Int) ≤ (S : Int)) = true := decide_eq_true (Int.ofNat_le.2 hgo)
            rw [← hq1]
            clear hq1
            simp (maxSteps := 4000000) only [go_sem, ↓op_move, ↓op_assign, ↓op_pick, ↓op_alloc, ↓op_box, ↓op_build, ↓op_buildSlice, ↓op_load, ↓op_store, ↓op_nilCheck, ↓op_bin, ↓op_un, ↓op_convert, ↓op_makeFunc, ↓op_makeSlice, ↓op_slice, ↓op_fieldAddr, ↓op_field, ↓op_indexAddr, ↓op_index, ↓op_extract, ↓op_lookup, ↓op_mapUpdate, ↓op_makeMap, ↓op_range, ↓op_next, ↓op_call, ↓op_builtin, ↓g_tt, ↓g_ff, ↓g_tf, ↓g_ft, ↓g_tnt, ↓g_tnf, ↓g_fnt, ↓g_fnf, cst1, d3]
            have := (sqb hgo).2
            exact ⟨inK_of (by omega) (by omega), inK_of (by omega) (by omega), by rw [cst2]; exact inK_of (by omega) (by omega), inK_of (by omega) (by omega), inK_of (by omega) (by omega), by omega, j + 1, hgo, by omega, .inr rfl, HpLe.none⟩
          · have d3 : decide ((((j + 1) * (j + 1) * T : Nat) : Int) ≤ (S : Int)) = false := decide_eq_false (fun q => hgo (Int.ofNat_le.1 q))
            rw [← hq1]
            clear hq1
            simp (maxSteps := 4000000) only [go_sem, ↓op_move, ↓op_assign, ↓op_pick, ↓op_alloc, ↓op_box, ↓op_build, ↓op_buildSlice, ↓op_load, ↓op_store, ↓op_nilCheck, ↓op_bin, ↓op_un, ↓op_convert, ↓op_makeFunc, ↓op_makeSlice, ↓op_slice, ↓op_fieldAddr, ↓op_field, ↓op_indexAddr, ↓op_index, ↓op_extract, ↓op_lookup, ↓op_mapUpdate, ↓op_makeMap, ↓op_range, ↓op_next, ↓op_call, ↓op_builtin, ↓g_tt, ↓g_ff, ↓g_tf, ↓g_ft, ↓g_tnt, ↓g_tnf, ↓g_fnt, ↓g_fnf, cst1, d3]
            refine ⟨inK_of (by omega) (by omega), inK_of (by omega) (by omega), by rw [cst2]; exact inK_of (by omega) (by omega), inK_of (by omega) (by omega), VEnt.of_eq ?_⟩
            rw [rootE_eq (n := j) h1 h3 (by rw [cst]; exact Int.ofNat_le.2 hj) (by rw [cst1]; exact Int.ofNat_lt.2 (by omega))]

theorem aRoots_ok : Holds Proofs.Tryz.prog G0 24 rootsC := by
  refine Holds.of_exC D24 Proofs.Tryz.func24 rfl foll (by kernel_rfl) (tab [(48, rootC)]) (tab_ok ⟨aRoot_ok, trivial⟩) G0_ok fun k0 rl args hpu hpre => ?_
  unfold rootsC at hpre ⊢
  split at hpre
  rotate_left
  · exact hpre.elim
  rename_i s t
  obtain ⟨h1, h2, h3, h4⟩ := hpre
  simp only [Proofs.Tryz.f24]
  simp (maxSteps := 4000000) only [go_sem, ↓op_move, ↓op_assign, ↓op_pick, ↓op_alloc, ↓op_box, ↓op_build, ↓op_buildSlice, ↓op_load, ↓op_store, ↓op_nilCheck, ↓op_bin, ↓op_un, ↓op_convert, ↓op_makeFunc, ↓op_makeSlice, ↓op_slice, ↓op_fieldAddr, ↓op_field, ↓op_indexAddr, ↓op_index, ↓op_extract, ↓op_lookup, ↓op_mapUpdate, ↓op_makeMap, ↓op_range, ↓op_next, ↓op_call, ↓op_builtin, ↓g_tt, ↓g_ff, ↓g_tf, ↓g_ft, ↓g_tnt, ↓g_tnf, ↓g_fnt, ↓g_fnf]
  have hn := rootE_nonneg s t
  have hsq := rootE_sq h1 h3
  have hle : rootE s t * rootE s t ≤ s := by
    have := Int.mul_le_mul_of_nonneg_left (show 1 ≤ t by omega) (Int.mul_nonneg hn hn)
    omega
  have hnn := Int.mul_nonneg hn hn
  have hr : rootE s t ≤ s := by
    rcases Int.le_total (rootE s t) 0 with q | q
    · omega
    · by_cases e : rootE s t = 0
      · omega
      · have := Int.mul_le_mul_of_nonneg_left (show 1 ≤ rootE s t by omega) hn
        omega
  have h0 : 0 ≤ rootE s t * rootE s t * t := Int.mul_nonneg hnn (by omega)
  refine ⟨⟨h1, h2, h3, h4⟩, inK_of (by omega) (by omega), inK_of (by omega) (by omega), fun h => ⟨inK_of (by omega) (by omega), VEnt.of_eq ?_⟩, fun h => VEnt.of_eq ?_⟩
  · unfold rootUp; rw [if_pos h]
  · unfold rootUp; rw [if_neg h]

theorem aPlaced_ok : Holds Proofs.Tryz.prog G0 59 (placedC 90) := by
  refine Holds.of_exC D59 Proofs.Tryz.func59 rfl foll (by kernel_rfl) (tab [(iceKey 1, iceC)]) (tab_ok ⟨ice_holds, trivial⟩) G0_ok fun k0 rl args hpu hpre => ?_
  unfold placedC at hpre ⊢
  split at hpre
  rotate_left
  · exact hpre.elim
  rename_i n sz get
  obtain ⟨rfl, hair⟩ := hpre
  have hp := hair.pu
  simp only [Proofs.Tryz.f59]
  simp (maxSteps := 4000000) only [go_sem, ↓op_move, ↓op_assign, ↓op_pick, ↓op_alloc, ↓op_box, ↓op_build, ↓op_buildSlice, ↓op_load, ↓op_store, ↓op_nilCheck, ↓op_bin, ↓op_un, ↓op_convert, ↓op_makeFunc, ↓op_makeSlice, ↓op_slice, ↓op_fieldAddr, ↓op_field, ↓op_indexAddr, ↓op_index, ↓op_extract, ↓op_lookup, ↓op_mapUpdate, ↓op_makeMap, ↓op_range, ↓op_next, ↓op_call, ↓op_builtin, ↓g_tt, ↓g_ff, ↓g_tf, ↓g_ft, ↓g_tnt, ↓g_tnf, ↓g_fnt, ↓g_fnf, hp]
  exact VEnt.of_eq rfl

end Go.Fly.Tryz
