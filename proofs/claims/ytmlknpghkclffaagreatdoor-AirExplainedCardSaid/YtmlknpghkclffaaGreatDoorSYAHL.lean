/- Part of a proof: an evaluator of the model's code by abstract values, and plain laws for it. No conditions. -/
import Derived.Test.YtmlknpghkclffaaGreatDoorSYAHG
import Derived.Test.YtmlknpghkclffaaGreatDoorBB
set_option linter.unusedSimpArgs false
set_option linter.unusedVariables false
section
/- Copies of airs whose lists stay the call's own. -/
set_option maxRecDepth 100000
set_option maxHeartbeats 4000000
namespace Go.Fly.Tryz
open Go

theorem lListM_ok : Holds Proofs.Tryz.prog G0 44 ownListMC := by
  refine Holds.of_exC D44 Proofs.Tryz.func44 rfl foll (by kernel_rfl) (tab [(ownKey 5, iceC)]) (tab_ok ⟨ice_holds, trivial⟩) G0_ok fun k0 rl args hpu hpre => ?_
  unfold ownListMC at hpre ⊢
  split at hpre
  rotate_left
  · exact hpre.elim
  rename_i n sz get
  obtain ⟨rfl, hiv, hn⟩ := hpre
  have hp := hiv.pu
  simp only [Proofs.Tryz.f44]
  rw [enter_mkT (Nat.le_of_ble_eq_true rfl)]
  simp (maxSteps := 4000000) only [go_sem, ↓op_move, ↓op_assign, ↓op_pick, ↓op_alloc, ↓op_box, ↓op_build, ↓op_buildSlice, ↓op_load, ↓op_store, ↓op_nilCheck, ↓op_bin, ↓op_un, ↓op_convert, ↓op_makeFunc, ↓op_makeSlice, ↓op_slice, ↓op_fieldAddr, ↓op_field, ↓op_indexAddr, ↓op_index, ↓op_extract, ↓op_lookup, ↓op_mapUpdate, ↓op_makeMap, ↓op_range, ↓op_next, ↓op_call, ↓op_builtin, ↓g_tt, ↓g_ff, ↓g_tf, ↓g_ft, ↓g_tnt, ↓g_tnf, ↓g_fnt, ↓g_fnf, ↓mkT_getD, hp, app0, Nat.zero_add]
  exact ⟨⟨by omega, by omega, ivs_okN hiv⟩, (3, 3), n, 2, _, _, rfl, if_pos rfl, fun _ _ => rfl, rfl, rfl, hp⟩

theorem airIn {Γ : FuncId → Option Contract} {r : Option Nat} {k0 : K} {hp : Heap} {ck n : Nat} {get : Nat → List V} {Kn : V → Heap → Nat → Prop} (hX : (⟨Proofs.Tryz.prog, Γ, G0, r, k0⟩ : Cx).Ok) (hair : IsAir n get) (hn8 : n ≤ 8) (hb8 : ∀ i, i < n → inN get i 4 ≤ 1000000)
    (hfree : ∀ l : Loc, ck < l.1 → hp l = none)
    (hKn : ∀ (L : Loc) (ck' : Nat) (b : NA), NInv L 5 (ownRow get) 2 (fun i => inN get i 4) (airR get) hp ck n ck' b → b.i = n → ck < L.1 → L.1 < ck' → Kn (.msl L 0 n) b.H ck') : CallT ⟨Proofs.Tryz.prog, Γ, G0, r, k0⟩ hp ck 19 [.sl n 5 get] Kn := by
  refine CallT.inline hX Proofs.Tryz.func19 rfl foll (D := D19) (by kernel_rfl) (tab [(44, ownListMC), (ownKey 24, iceC)]) (tab_ok ⟨lListM_ok, ice_holds, trivial⟩) fun k1 => ?_
  have hpu := hair.pu
  simp only [Proofs.Tryz.f19]
  rw [app_mkT (Nat.le_of_ble_eq_true rfl)]
  simp (maxSteps := 4000000) only [go_sem, ↓op_move, ↓op_assign, ↓op_pick, ↓op_alloc, ↓op_box, ↓op_build, ↓op_buildSlice, ↓op_load, ↓op_store, ↓op_nilCheck, ↓op_bin, ↓op_un, ↓op_convert, ↓op_makeFunc, ↓op_makeSlice, ↓op_slice, ↓op_fieldAddr, ↓op_field, ↓op_indexAddr, ↓op_index, ↓op_extract, ↓op_lookup, ↓op_mapUpdate, ↓op_makeMap, ↓op_range, ↓op_next, ↓op_call, ↓op_builtin, ↓g_tt, ↓g_ff, ↓g_tf, ↓g_ft, ↓g_tnt, ↓g_tnf, ↓g_fnt, ↓g_fnf, ↓mkT_getD, hpu]
  refine RestT.ents (Ents.nilArr (d := 3) (l := (ck + 1 + 1 + 1 + 1, 1000)) 5 (ownRow get (fun _ => (0, 0))) rfl (hfree _ (by show ck < ck + 1 + 1 + 1 + 1; omega)) rfl) ?_
  simp (maxSteps := 4000000) only [go_sem, ↓op_move, ↓op_assign, ↓op_pick, ↓op_alloc, ↓op_box, ↓op_build, ↓op_buildSlice, ↓op_load, ↓op_store, ↓op_nilCheck, ↓op_bin, ↓op_un, ↓op_convert, ↓op_makeFunc, ↓op_makeSlice, ↓op_slice, ↓op_fieldAddr, ↓op_field, ↓op_indexAddr, ↓op_index, ↓op_extract, ↓op_lookup, ↓op_mapUpdate, ↓op_makeMap, ↓op_range, ↓op_next, ↓op_call, ↓op_builtin, ↓g_tt, ↓g_ff, ↓g_tf, ↓g_ft, ↓g_tnt, ↓g_tnf, ↓g_fnt, ↓g_fnf, ↓mkT_getD]
  refine RestT.loopG (β := NA) [(3, 3), (5, 5), (8, 25)] (fun b => [(3, .msl (ck + 1 + 1 + 1 + 1, 1000) 0 b.i), (8, .int .i64 b.i)]) (fun b => b.H) (fun c b => NInv (ck + 1 + 1 + 1 + 1, 1000) 5 (ownRow get) 2 (fun i => inN get i 4) (airR get) hp ck n c b ∧ ck + 1 + 1 + 1 + 1 < c) (fun b => n - b.i)
    ⟨0, fun _ => (0, 0), updH hp (ck + 1 + 1 + 1 + 1, 1000) (.arr 0 5 (ownRow get (fun _ => (0, 0))))⟩ ⟨NInv.start (by show ck < ck + 1 + 1 + 1 + 1; omega) (by show ck + 1 + 1 + 1 + 1 < _; omega) hfree, by omega⟩ ?_ (HpLe.refl _) ?_
  · simp (maxSteps := 4000000) only [go_sem, ↓op_move, ↓op_assign, ↓op_pick, ↓op_alloc, ↓op_box, ↓op_build, ↓op_buildSlice, ↓op_load, ↓op_store, ↓op_nilCheck, ↓op_bin, ↓op_un, ↓op_convert, ↓op_makeFunc, ↓op_makeSlice, ↓op_slice, ↓op_fieldAddr, ↓op_field, ↓op_indexAddr, ↓op_index, ↓op_extract, ↓op_lookup, ↓op_mapUpdate, ↓op_makeMap, ↓op_range, ↓op_next, ↓op_call, ↓op_builtin, ↓g_tt, ↓g_ff, ↓g_tf, ↓g_ft, ↓g_tnt, ↓g_tnf, ↓g_fnt, ↓g_fnf, ↓mkT_getD]
    try exact ⟨rfl, rfl⟩
  · intro ck' b hck hI
    generalize hq0 : exC _ _ _ _ _ = gg
    obtain ⟨i, nu, H⟩ := b
    obtain ⟨hI, hc4⟩ := hI
    have hle : i ≤ n := hI.le
    by_cases hlt : i < n
    · have hd : decide ((i : Int) < (n : Int)) = true := by simp; omega
      obtain ⟨hg, hiv⟩ := hair.2 i hlt
      have hp2 := hiv.pu
      have hout : H (ck + 1 + 1 + 1 + 1, 1000) = some (.arr i 5 (ownRow get nu)) := hI.outer
      have f0 : ∀ d, H (ck', d) = none := fun d => hI.free _ (Nat.le_refl _)
      have f1 : ∀ d, H (ck' + 1, d) = none := fun d => hI.free _ (by show ck' ≤ ck' + 1; omega)
      have f2 : ∀ d, H (ck' + 1 + 1, d) = none := fun d => hI.free _ (by show ck' ≤ ck' + 1 + 1; omega)
      have f3 : ∀ d, H (ck' + 1 + 1 + 1, d) = none := fun d => hI.free _ (by show ck' ≤ ck' + 1 + 1 + 1; omega)
      rw [← hq0]
      clear hq0
      have hz : 0 + inN get i 4 = inN get i 4 := Nat.zero_add _
      have hbi := hb8 i hlt
      simp (maxSteps := 4000000) only [go_sem, ↓op_move, ↓op_assign, ↓op_pick, ↓op_alloc, ↓op_box, ↓op_build, ↓op_buildSlice, ↓op_load, ↓op_store, ↓op_nilCheck, ↓op_bin, ↓op_un, ↓op_convert, ↓op_makeFunc, ↓op_makeSlice, ↓op_slice, ↓op_fieldAddr, ↓op_field, ↓op_indexAddr, ↓op_index, ↓op_extract, ↓op_lookup, ↓op_mapUpdate, ↓op_makeMap, ↓op_range, ↓op_next, ↓op_call, ↓op_builtin, ↓g_tt, ↓g_ff, ↓g_tf, ↓g_ft, ↓g_tnt, ↓g_tnf, ↓g_fnt, ↓g_fnf, ↓mkT_getD, hd, hg, hpu, hp2, app0, hz, hout, f0, f1, f2, f3]
      refine ⟨⟨by omega, by omega⟩, ⟨hiv, by omega⟩, ⟨by omega, by omega, row_okN rfl onesN5⟩, inK_of (by omega) (by omega), by omega,
        ⟨i + 1, updN nu i (ck' + 1 + 1 + 1, 21), updH (updH H (ck' + 1 + 1 + 1, 21) (.arr (inN get i 4) 2 (airR get i))) (ck + 1 + 1 + 1 + 1, 1000) (.arr (i + 1) 5 (ownRow get (updN nu i (ck' + 1 + 1 + 1, 21))))⟩,
        ⟨hI.snoc hlt (by show ck' ≤ ck' + 1 + 1 + 1; omega) (by show ck' + 1 + 1 + 1 < _; omega) (by show ck < ck + 1 + 1 + 1 + 1; omega) (by show ck + 1 + 1 + 1 + 1 < ck'; omega) (fun a b j h => by simp only [ownRow, h]), by omega⟩, by show n - (i + 1) < n - i; omega, ⟨rfl, rfl⟩, ?_⟩
      refine hp_le2 ⟨_, ?_, objLe_arr fun j hj => (hiv.2 j hj).symm⟩ ⟨_, updH_same _ _ _, objLe_arr fun j hj => snocN rfl ?_ (fun k hk => ?_) hj⟩ fun l' o q1 q2 q3 => ?_
      · simp (maxSteps := 4000000) only [go_sem, ↓op_move, ↓op_assign, ↓op_pick, ↓op_alloc, ↓op_box, ↓op_build, ↓op_buildSlice, ↓op_load, ↓op_store, ↓op_nilCheck, ↓op_bin, ↓op_un, ↓op_convert, ↓op_makeFunc, ↓op_makeSlice, ↓op_slice, ↓op_fieldAddr, ↓op_field, ↓op_indexAddr, ↓op_index, ↓op_extract, ↓op_lookup, ↓op_mapUpdate, ↓op_makeMap, ↓op_range, ↓op_next, ↓op_call, ↓op_builtin, ↓g_tt, ↓g_ff, ↓g_tf, ↓g_ft, ↓g_tnt, ↓g_tnf, ↓g_fnt, ↓g_fnf, ↓mkT_getD]
      · simp only [ownRow, updN_same]
      · simp only [ownRow, updN_ne (Nat.ne_of_lt hk)]
      · have hl : l'.1 < ck' := by
          rcases Nat.lt_or_ge l'.1 ck' with h | h
          · exact h
          · rw [show H l' = none from hI.free l' h] at q3; cases q3
        have hne : ∀ k d, ck' ≤ k → l' ≠ (k, d) := fun k d hk e => by rw [e] at hl; simp at hl; omega
        rw [updH_ne q2, updH_ne (hne _ _ (by omega)), updH_ne q1, updH_ne (hne _ _ (by omega)), updH_ne (hne _ _ (by omega))]
        exact q3
    · have hd : decide ((i : Int) < (n : Int)) = false := by simp; omega
      obtain rfl : i = n := by omega
      rw [← hq0]
      clear hq0
      simp (maxSteps := 4000000) only [go_sem, ↓op_move, ↓op_assign, ↓op_pick, ↓op_alloc, ↓op_box, ↓op_build, ↓op_buildSlice, ↓op_load, ↓op_store, ↓op_nilCheck, ↓op_bin, ↓op_un, ↓op_convert, ↓op_makeFunc, ↓op_makeSlice, ↓op_slice, ↓op_fieldAddr, ↓op_field, ↓op_indexAddr, ↓op_index, ↓op_extract, ↓op_lookup, ↓op_mapUpdate, ↓op_makeMap, ↓op_range, ↓op_next, ↓op_call, ↓op_builtin, ↓g_tt, ↓g_ff, ↓g_tf, ↓g_ft, ↓g_tnt, ↓g_tnf, ↓g_fnt, ↓g_fnf, ↓mkT_getD, hd, hpu]
      refine ⟨_, Ents.refl _ _, ?_⟩
      simp (maxSteps := 4000000) only [go_sem, ↓op_move, ↓op_assign, ↓op_pick, ↓op_alloc, ↓op_box, ↓op_build, ↓op_buildSlice, ↓op_load, ↓op_store, ↓op_nilCheck, ↓op_bin, ↓op_un, ↓op_convert, ↓op_makeFunc, ↓op_makeSlice, ↓op_slice, ↓op_fieldAddr, ↓op_field, ↓op_indexAddr, ↓op_index, ↓op_extract, ↓op_lookup, ↓op_mapUpdate, ↓op_makeMap, ↓op_range, ↓op_next, ↓op_call, ↓op_builtin, ↓g_tt, ↓g_ff, ↓g_tf, ↓g_ft, ↓g_tnt, ↓g_tnf, ↓g_fnt, ↓g_fnf, ↓mkT_getD, hpu]
      exact hKn _ _ ⟨i, nu, H⟩ (hI.mono (by omega)) rfl (by show ck < ck + 1 + 1 + 1 + 1; omega) (by show ck + 1 + 1 + 1 + 1 < _; omega)
end Go.Fly.Tryz
end
section
/- The law on what explains what is heard. -/
set_option maxRecDepth 100000
set_option maxHeartbeats 16000000
namespace Go.Fly.Tryz
open Go
theorem lList2_ok : Holds Proofs.Tryz.prog G0 44 ownListC := lList_ok

theorem wExpl_ok : Holds Proofs.Tryz.prog G0 11 airExplC := by
  refine Holds.of_exC D11 Proofs.Tryz.func11 rfl foll (by kernel_rfl) (tab [(15, awakeC), (16, shortAirC), (17, airC), (19, ownAirC), (30, toPathRC), (32, pathC), (37, passed3C), (41, arr3C), (42, ownIntsC), (43, em3C), (44, ownListC), (66, ofIvC), (iceKey 4, iceC), (inlKey 387, iceC)]) (tab_ok ⟨lAwake_ok, rAirShort_ok, rAir_ok, lOwn_ok, lPath_ok, rPth_ok, gPassed3_ok, gArr_ok, lInts_ok, gEm_ok, lList2_ok, lOf_ok, ice_holds, ice_holds, trivial⟩) G0_ok fun k0 rl args hpu hpre => ?_
  unfold airExplC at hpre ⊢
  split at hpre
  rotate_left
  · exact hpre.elim
  rename_i n sz get a b c d e f m szm x
  obtain ⟨rfl, hair, rfl, hx⟩ := hpre
  have hp := hair.pu
  have hpx := hx.pu
  have hn := hair.1
  cases hsh : shortAirB n get
  · simp only [Proofs.Tryz.f11]
    rw [enter_mkT (Nat.le_of_ble_eq_true rfl)]
    simp (maxSteps := 4000000) only [go_sem, ↓op_move, ↓op_assign, ↓op_pick, ↓op_alloc, ↓op_box, ↓op_build, ↓op_buildSlice, ↓op_load, ↓op_store, ↓op_nilCheck, ↓op_bin, ↓op_un, ↓op_convert, ↓op_makeFunc, ↓op_makeSlice, ↓op_slice, ↓op_fieldAddr, ↓op_field, ↓op_indexAddr, ↓op_index, ↓op_extract, ↓op_lookup, ↓op_mapUpdate, ↓op_makeMap, ↓op_range, ↓op_next, ↓op_call, ↓op_builtin, ↓g_tt, ↓g_ff, ↓g_tf, ↓g_ft, ↓g_tnt, ↓g_tnf, ↓g_fnt, ↓g_fnf, ↓mkT_getD, hp, hpx, hsh]
    exact ⟨hair, VEnt.refl _⟩
  · by_cases h0 : airE n get = 0
    · have d0 : decide (airE n get = 0) = true := decide_eq_true h0
      by_cases h1 : pathE a b c d e f = 0
      · have d1 : decide (pathE a b c d e f = 0) = true := decide_eq_true h1
        have hok := airE_ok h0
        have hcnt := hok.cnt
        obtain ⟨hg0, hiv0⟩ := hair.2 0 hcnt.1
        have hp0 := hiv0.pu
        by_cases h2 : m < inN get 0 4
        · have d2 : decide ((m : Int) < (inN get 0 4 : Int)) = true := decide_eq_true (by omega)
          simp only [Proofs.Tryz.f11]
          rw [enter_mkT (Nat.le_of_ble_eq_true rfl)]
          simp (maxSteps := 4000000) only [go_sem, ↓op_move, ↓op_assign, ↓op_pick, ↓op_alloc, ↓op_box, ↓op_build, ↓op_buildSlice, ↓op_load, ↓op_store, ↓op_nilCheck, ↓op_bin, ↓op_un, ↓op_convert, ↓op_makeFunc, ↓op_makeSlice, ↓op_slice, ↓op_fieldAddr, ↓op_field, ↓op_indexAddr, ↓op_index, ↓op_extract, ↓op_lookup, ↓op_mapUpdate, ↓op_makeMap, ↓op_range, ↓op_next, ↓op_call, ↓op_builtin, ↓g_tt, ↓g_ff, ↓g_tf, ↓g_ft, ↓g_tnt, ↓g_tnf, ↓g_fnt, ↓g_fnf, ↓mkT_getD, hp, hpx, hsh, d0, d1, d2, hg0, hp0]
          exact ⟨hair, hair, by omega, VEnt.refl _⟩
        · have d2 : decide ((m : Int) < (inN get 0 4 : Int)) = false := decide_eq_false (by omega)
          obtain ⟨hn9, hb9⟩ := short_use hsh
          have hown : IsAir n get ∧ n ≤ 1000 ∧ ∀ i, i < n → inN get i 4 ≤ 1000 := ⟨hair, by omega, fun i hi => by have := hb9 i hi; omega⟩
          have hce : checkE n get a b c d e f = 0 := firstL_zero.2 fun z hz => by
            simp only [List.mem_cons, List.not_mem_nil, or_false] at hz
            rcases hz with rfl | rfl
            · exact h0
            · exact h1
          have hpath := (checkE_zero.1 hce).2
          have hb8 := hok.bands
          have hEb : ∀ i, i < inN get 0 4 → (x i = [.int .u32 (cell x i 0), .int .u32 (cell x i 1)]) ∧ (0 ≤ 1000 * cell x i 0 ∧ 1000 * cell x i 0 ≤ 4294967295000) ∧ 0 ≤ cell x i 1 ∧ cell x i 1 ≤ 4294967295 := fun i hi => by
            obtain ⟨e1, e2, e3⟩ := hx.2 i (by omega)
            exact ⟨e1, ⟨by omega, by omega⟩, e3⟩
          have hen : IsInts (inN get 0 4) fun j => [.int .i64 (1000 * cell x j 0)] := isInts_fn _ (by omega)
          have hpen := hen.pu
          have hpb := fun i hi => d_bd (k := i) hok hpath hi
          have hE1 : arr3E n get a b c d e f (inN get 0 4) (fun j => [.int .i64 (1000 * cell x j 0)]) = 0 := by
            unfold arr3E
            rw [if_neg (by simp [hce])]
            refine firstL_zero.2 fun z hz => ?_
            simp only [List.mem_cons, List.not_mem_nil, or_false] at hz
            rcases hz with rfl | rfl
            · rw [err_zero (by decide)]; simp
            · refine rngs_zero.2 fun i hi => ?_
              have := (hEb i hi).2.1
              show 0 ≤ 1000 * cell x i 0 ∧ 1000 * cell x i 0 ≤ 10000000000000
              omega
          have o1 := orE_noA hE1
          have o2 := orE_noA hce
          obtain ⟨PL, hPL'⟩ : ∃ P : Nat → Int, ∀ i, dLo n get a b c d e f i = P i := ⟨_, fun _ => rfl⟩
          obtain ⟨PH, hPH'⟩ : ∃ P : Nat → Int, ∀ i, dHi n get a b c d e f i = P i := ⟨_, fun _ => rfl⟩
          have hQL : ∀ i, qLo n get (sqE a b c d e f) (min c f) (max c f) 0 0 c i = PL i := fun i => hPL' i
          have hQH : ∀ i, qHi n get (sqE a b c d e f) (min c f) (max c f) 0 0 c i = PH i := fun i => hPH' i
          simp only [hPL', hPH'] at hpb
          obtain ⟨AL, hAL⟩ : ∃ P : Nat → Int, ∀ i, arrLo (1000 * cell x i 0) (PL i) = P i := ⟨_, fun _ => rfl⟩
          obtain ⟨AH, hAH⟩ : ∃ P : Nat → Int, ∀ i, arrHi (1000 * cell x i 0) (PH i) = P i := ⟨_, fun _ => rfl⟩
          obtain ⟨WL, hWL⟩ : ∃ P : Nat → Int, ∀ i, max 0 (AL i - (cell x i 1).tmod 1000) = P i := ⟨_, fun _ => rfl⟩
          obtain ⟨WH, hWH⟩ : ∃ P : Nat → Int, ∀ i, AH i + (cell x i 1).tmod 1000 = P i := ⟨_, fun _ => rfl⟩
          have hab : ∀ i, i < inN get 0 4 → 0 ≤ AL i ∧ AL i ≤ AH i ∧ AH i ≤ 1000 * cell x i 0 := fun i hi => by
            have h3 := hpb i hi
            have h4 := arr_bd (hEb i hi).2.1.1 h3.1 h3.2.1 h3.2.2
            rw [hAL, hAH] at h4
            exact h4
          have hwb : ∀ i, i < inN get 0 4 → (0 ≤ (cell x i 1).tmod 1000 ∧ (cell x i 1).tmod 1000 < 1000) ∧ 0 ≤ WL i ∧ WL i ≤ AL i ∧ AH i ≤ WH i ∧ WH i ≤ 5000000000000 := fun i hi => by
            obtain ⟨e1, e2, e3⟩ := hEb i hi
            have h3 := tmod_bd (a := cell x i 1) (b := 1000) e3.1 (by decide)
            have h4 := hab i hi
            rw [← hWL, ← hWH]
            omega
          have hmA : ∀ i, emA n get a b c d e f (fun i => [.int .i64 (AL i), .int .i64 (AH i)]) i = emLo (AL i) (PH i) := fun i => by unfold emA; rw [hPH']; rfl
          have hmB : ∀ i, emB n get a b c d e f (fun i => [.int .i64 (AL i), .int .i64 (AH i)]) i = emHi (AH i) (PL i) := fun i => by unfold emB; rw [hPL']; rfl
          have hmC : ∀ i, emA n get a b c d e f (fun i => [.int .i64 (WL i), .int .i64 (WH i)]) i = emLo (WL i) (PH i) := fun i => by unfold emA; rw [hPH']; rfl
          have hmD : ∀ i, emB n get a b c d e f (fun i => [.int .i64 (WL i), .int .i64 (WH i)]) i = emHi (WH i) (PL i) := fun i => by unfold emB; rw [hPL']; rfl
          have hfeas : ∀ i, i < inN get 0 4 → emLo (AL i) (PH i) ≤ 1000 * cell x i 0 ∧ 1000 * cell x i 0 ≤ emHi (AH i) (PL i) := fun i hi => by
            have h3 := hpb i hi
            have h5 := (hEb i hi).2.1
            have h4 := em_bd (e := 1000 * cell x i 0) h5.1 (by omega) h3.1 h3.2.1 h3.2.2
            rw [hAL, hAH] at h4
            exact h4
          have hmono : ∀ i, i < inN get 0 4 → emLo (WL i) (PH i) ≤ emLo (AL i) (PH i) ∧ emHi (AH i) (PL i) ≤ emHi (WH i) (PL i) ∧ 0 ≤ emLo (WL i) (PH i) ∧ 0 ≤ emLo (AL i) (PH i) := fun i hi => by
            have h3 := hpb i hi
            have h4 := hwb i hi
            have h5 := hab i hi
            exact ⟨emLo_mono h4.2.1 h4.2.2.1 (by omega), emHi_mono h4.2.2.2.1, emLo_nn h4.2.1 (by omega), emLo_nn h5.1 (by omega)⟩
          have o3 := orE_noA (em3E_ok hce (lo := AL) (hi := AH) (fun i hi => by have h3 := hab i hi; have h5 := (hEb i hi).2.1; omega) fun i hi => by
            have h3 := hfeas i hi
            rw [hPL', hPH']; omega)
          have o4 := orE_noA (em3E_ok hce (lo := WL) (hi := WH) (fun i hi => by have h3 := hab i hi; have h5 := hwb i hi; omega) fun i hi => by
            have h3 := hfeas i hi
            have h4 := hmono i hi
            rw [hPL', hPH']; omega)
          have hih : IsIv (inN get 0 4) fun i => [.int .i64 (AL i), .int .i64 (AH i)] := isIv_fn AL AH (by omega)
          have hiw : IsIv (inN get 0 4) fun i => [.int .i64 (WL i), .int .i64 (WH i)] := isIv_fn WL WH (by omega)
          have hph := hih.pu
          have hpw := hiw.pu
          simp only [Proofs.Tryz.f11]
          rw [enter_mkT (Nat.le_of_ble_eq_true rfl)]
          simp (maxSteps := 4000000) only [go_sem, ↓op_move, ↓op_assign, ↓op_pick, ↓op_alloc, ↓op_box, ↓op_build, ↓op_buildSlice, ↓op_load, ↓op_store, ↓op_nilCheck, ↓op_bin, ↓op_un, ↓op_convert, ↓op_makeFunc, ↓op_makeSlice, ↓op_slice, ↓op_fieldAddr, ↓op_field, ↓op_indexAddr, ↓op_index, ↓op_extract, ↓op_lookup, ↓op_mapUpdate, ↓op_makeMap, ↓op_range, ↓op_next, ↓op_call, ↓op_builtin, ↓g_tt, ↓g_ff, ↓g_tf, ↓g_ft, ↓g_tnt, ↓g_tnf, ↓g_fnt, ↓g_fnf, ↓mkT_getD, hp, hpx, hsh, d0, d1, d2, hg0, hp0]
          refine ⟨hair, hair, by omega, by omega, ?_⟩
          refine RestT.ents (Ents.nilArr (d := 7) (l := (6, 1000)) 1 (fun _ => []) rfl rfl rfl) ?_
          simp (maxSteps := 4000000) only [go_sem, ↓op_move, ↓op_assign, ↓op_pick, ↓op_alloc, ↓op_box, ↓op_build, ↓op_buildSlice, ↓op_load, ↓op_store, ↓op_nilCheck, ↓op_bin, ↓op_un, ↓op_convert, ↓op_makeFunc, ↓op_makeSlice, ↓op_slice, ↓op_fieldAddr, ↓op_field, ↓op_indexAddr, ↓op_index, ↓op_extract, ↓op_lookup, ↓op_mapUpdate, ↓op_makeMap, ↓op_range, ↓op_next, ↓op_call, ↓op_builtin, ↓g_tt, ↓g_ff, ↓g_tf, ↓g_ft, ↓g_tnt, ↓g_tnf, ↓g_fnt, ↓g_fnf, ↓mkT_getD]
          refine RestT.loopG (β := Nat) [(7, 7), (9, 9), (64, 77)] (fun i => [(7, .msl (6, 1000) 0 i), (64, .int .i64 i)]) (fun i => updH (fun _ => none) (6, 1000) (.arr i 1 fun j => [.int .i64 (1000 * cell x j 0)]))
            (fun _ i => i ≤ inN get 0 4) (fun i => inN get 0 4 - i) 0 (Nat.zero_le _) ?_ (HpLe.arr1 (updH_same _ _ _) rfl rfl fun j hj => absurd hj (Nat.not_lt_zero _)) ?_
          · simp (maxSteps := 4000000) only [go_sem, ↓op_move, ↓op_assign, ↓op_pick, ↓op_alloc, ↓op_box, ↓op_build, ↓op_buildSlice, ↓op_load, ↓op_store, ↓op_nilCheck, ↓op_bin, ↓op_un, ↓op_convert, ↓op_makeFunc, ↓op_makeSlice, ↓op_slice, ↓op_fieldAddr, ↓op_field, ↓op_indexAddr, ↓op_index, ↓op_extract, ↓op_lookup, ↓op_mapUpdate, ↓op_makeMap, ↓op_range, ↓op_next, ↓op_call, ↓op_builtin, ↓g_tt, ↓g_ff, ↓g_tf, ↓g_ft, ↓g_tnt, ↓g_tnf, ↓g_fnt, ↓g_fnf, ↓mkT_getD]
            try exact ⟨rfl, rfl⟩
          · intro ck i hck hi
            generalize hq0 : exC _ _ _ _ _ = gg
            by_cases hlt : i < inN get 0 4
            · have hd : decide ((i : Int) < (inN get 0 4 : Int)) = true := by simp; omega
              obtain ⟨hxi, hxb, hxc⟩ := hEb i hlt
              rw [← hq0]
              clear hq0
              simp (maxSteps := 4000000) only [go_sem, ↓op_move, ↓op_assign, ↓op_pick, ↓op_alloc, ↓op_box, ↓op_build, ↓op_buildSlice, ↓op_load, ↓op_store, ↓op_nilCheck, ↓op_bin, ↓op_un, ↓op_convert, ↓op_makeFunc, ↓op_makeSlice, ↓op_slice, ↓op_fieldAddr, ↓op_field, ↓op_indexAddr, ↓op_index, ↓op_extract, ↓op_lookup, ↓op_mapUpdate, ↓op_makeMap, ↓op_range, ↓op_next, ↓op_call, ↓op_builtin, ↓g_tt, ↓g_ff, ↓g_tf, ↓g_ft, ↓g_tnt, ↓g_tnf, ↓g_fnt, ↓g_fnf, ↓mkT_getD, hd, hp, hpx, hxi, w32, iteT]
              exact ⟨⟨by omega, by omega⟩, inK_of (by omega) (by omega), inK_of (by omega) (by omega), ⟨by omega, by omega, row_okN rfl onesN1⟩, inK_of (by omega) (by omega), by omega, i + 1, hlt, by omega, ⟨rfl, by rw [Int.natCast_add]; rfl⟩, HpLe.arr1 (updH_same _ _ _) rfl rfl fun j hj => snoc (f := fun j => [V.int .i64 (1000 * cell x j 0)]) rfl rfl hj⟩
            · have hd : decide ((i : Int) < (inN get 0 4 : Int)) = false := by simp; omega
              have hin : i = inN get 0 4 := by omega
              rw [← hq0]
              clear hq0
              subst hin
              simp (maxSteps := 4000000) only [go_sem, ↓op_move, ↓op_assign, ↓op_pick, ↓op_alloc, ↓op_box, ↓op_build, ↓op_buildSlice, ↓op_load, ↓op_store, ↓op_nilCheck, ↓op_bin, ↓op_un, ↓op_convert, ↓op_makeFunc, ↓op_makeSlice, ↓op_slice, ↓op_fieldAddr, ↓op_field, ↓op_indexAddr, ↓op_index, ↓op_extract, ↓op_lookup, ↓op_mapUpdate, ↓op_makeMap, ↓op_range, ↓op_next, ↓op_call, ↓op_builtin, ↓g_tt, ↓g_ff, ↓g_tf, ↓g_ft, ↓g_tnt, ↓g_tnf, ↓g_fnt, ↓g_fnf, ↓mkT_getD, hd, hp, hpx]
              refine ⟨_, Ents.kill (d := 7) (l := (6, 1000)) (n := inN get 0 4) rfl rfl fun a b v _ hv => (ones1 v (List.mem_of_getElem? hv)).1, ?_⟩
              simp (maxSteps := 4000000) only [go_sem, ↓op_move, ↓op_assign, ↓op_pick, ↓op_alloc, ↓op_box, ↓op_build, ↓op_buildSlice, ↓op_load, ↓op_store, ↓op_nilCheck, ↓op_bin, ↓op_un, ↓op_convert, ↓op_makeFunc, ↓op_makeSlice, ↓op_slice, ↓op_fieldAddr, ↓op_field, ↓op_indexAddr, ↓op_index, ↓op_extract, ↓op_lookup, ↓op_mapUpdate, ↓op_makeMap, ↓op_range, ↓op_next, ↓op_call, ↓op_builtin, ↓g_tt, ↓g_ff, ↓g_tf, ↓g_ft, ↓g_tnt, ↓g_tnf, ↓g_fnt, ↓g_fnf, ↓mkT_getD, hd, hp, hpx, hpen, o1, o2, hPL', hPH', hQL, hQH, hAL, hAH, dec_self]
              refine ⟨hown, ⟨hen, by omega⟩, ⟨hair, hen, by omega⟩, hown, hair, ?_⟩
              refine RestT.ents (Ents.nilArr (d := 8) (l := (ck + 1 + 1 + 1 + 1 + 1, 2000)) 2 (fun _ => []) rfl (by simp [updH]) rfl) ?_
              simp (maxSteps := 4000000) only [go_sem, ↓op_move, ↓op_assign, ↓op_pick, ↓op_alloc, ↓op_box, ↓op_build, ↓op_buildSlice, ↓op_load, ↓op_store, ↓op_nilCheck, ↓op_bin, ↓op_un, ↓op_convert, ↓op_makeFunc, ↓op_makeSlice, ↓op_slice, ↓op_fieldAddr, ↓op_field, ↓op_indexAddr, ↓op_index, ↓op_extract, ↓op_lookup, ↓op_mapUpdate, ↓op_makeMap, ↓op_range, ↓op_next, ↓op_call, ↓op_builtin, ↓g_tt, ↓g_ff, ↓g_tf, ↓g_ft, ↓g_tnt, ↓g_tnf, ↓g_fnt, ↓g_fnf, ↓mkT_getD]
              refine RestT.loopG (β := Nat) [(6, 6), (8, 8), (14, 15), (118, 198)] (fun k => [(8, .msl (ck + 1 + 1 + 1 + 1 + 1, 2000) 0 k), (118, .int .i64 k)]) (fun k => updH (fun _ => none) (ck + 1 + 1 + 1 + 1 + 1, 2000) (.arr k 2 fun j => [.int .i64 (WL j), .int .i64 (WH j)]))
                (fun _ k => k ≤ inN get 0 4) (fun k => inN get 0 4 - k) 0 (Nat.zero_le _) ?_ (HpLe.arr1 (updH_same _ _ _) rfl rfl fun j hj => absurd hj (Nat.not_lt_zero _)) ?_
              · simp (maxSteps := 4000000) only [go_sem, ↓op_move, ↓op_assign, ↓op_pick, ↓op_alloc, ↓op_box, ↓op_build, ↓op_buildSlice, ↓op_load, ↓op_store, ↓op_nilCheck, ↓op_bin, ↓op_un, ↓op_convert, ↓op_makeFunc, ↓op_makeSlice, ↓op_slice, ↓op_fieldAddr, ↓op_field, ↓op_indexAddr, ↓op_index, ↓op_extract, ↓op_lookup, ↓op_mapUpdate, ↓op_makeMap, ↓op_range, ↓op_next, ↓op_call, ↓op_builtin, ↓g_tt, ↓g_ff, ↓g_tf, ↓g_ft, ↓g_tnt, ↓g_tnf, ↓g_fnt, ↓g_fnf, ↓mkT_getD]
                try exact ⟨rfl, rfl⟩
              · intro ck2 k hck2 hk
                generalize hq0 : exC _ _ _ _ _ = gg
                by_cases hlt : k < inN get 0 4
                · have hd : decide ((k : Int) < (inN get 0 4 : Int)) = true := by simp; omega
                  obtain ⟨hxi, hxb, hxc⟩ := hEb k hlt
                  have p1 := hpb k hlt
                  have p2 := hab k hlt
                  have p3 := hwb k hlt
                  have c1 : decide (AL k < 0) = false := decide_eq_false (by omega)
                  have c2 : decide (AH k < AL k) = false := decide_eq_false (by omega)
                  have c3 : decide (1000 * cell x k 0 < AH k) = false := decide_eq_false (by omega)
                  have c4 : decide (PL k < 0) = false := decide_eq_false (by omega)
                  have c5 : decide (1000 < PH k) = false := decide_eq_false (by omega)
                  rw [← hq0]
                  clear hq0
                  simp (maxSteps := 4000000) only [go_sem, ↓op_move, ↓op_assign, ↓op_pick, ↓op_alloc, ↓op_box, ↓op_build, ↓op_buildSlice, ↓op_load, ↓op_store, ↓op_nilCheck, ↓op_bin, ↓op_un, ↓op_convert, ↓op_makeFunc, ↓op_makeSlice, ↓op_slice, ↓op_fieldAddr, ↓op_field, ↓op_indexAddr, ↓op_index, ↓op_extract, ↓op_lookup, ↓op_mapUpdate, ↓op_makeMap, ↓op_range, ↓op_next, ↓op_call, ↓op_builtin, ↓g_tt, ↓g_ff, ↓g_tf, ↓g_ft, ↓g_tnt, ↓g_tnf, ↓g_fnt, ↓g_fnf, ↓mkT_getD, hd, hp, hpx, hxi, c1, c2, c3, c4, c5, w32, iteT, hWL, hWH]
                  have hio : 0 ≤ (k : Int) ∧ (k : Int) < (inN get 0 4 : Int) := ⟨by omega, by omega⟩
                  have hxo : 0 ≤ (k : Int) ∧ (k : Int) < (m : Int) := ⟨by omega, by omega⟩
                  exact ⟨hio, hio, hio, hio, hio, hio, hio, hio, hxo, inK_of (by omega) (by omega), inK_of (by omega) (by omega), hio, hxo, inK_of (by omega) (by omega), inK_of (by omega) (by omega), ⟨by omega, by omega, row_okN rfl onesN2i⟩, inK_of (by omega) (by omega), by omega, k + 1, hlt, by omega, ⟨rfl, by rw [Int.natCast_add]; rfl⟩, HpLe.arr1 (updH_same _ _ _) rfl rfl fun j hj => snoc (f := fun j => [V.int .i64 (WL j), V.int .i64 (WH j)]) rfl rfl hj⟩
                · have hd : decide ((k : Int) < (inN get 0 4 : Int)) = false := by simp; omega
                  have hkn : k = inN get 0 4 := by omega
                  rw [← hq0]
                  clear hq0
                  subst hkn
                  simp (maxSteps := 4000000) only [go_sem, ↓op_move, ↓op_assign, ↓op_pick, ↓op_alloc, ↓op_box, ↓op_build, ↓op_buildSlice, ↓op_load, ↓op_store, ↓op_nilCheck, ↓op_bin, ↓op_un, ↓op_convert, ↓op_makeFunc, ↓op_makeSlice, ↓op_slice, ↓op_fieldAddr, ↓op_field, ↓op_indexAddr, ↓op_index, ↓op_extract, ↓op_lookup, ↓op_mapUpdate, ↓op_makeMap, ↓op_range, ↓op_next, ↓op_call, ↓op_builtin, ↓g_tt, ↓g_ff, ↓g_tf, ↓g_ft, ↓g_tnt, ↓g_tnf, ↓g_fnt, ↓g_fnf, ↓mkT_getD, hd, hp, hpx]
                  refine ⟨_, Ents.kill (d := 8) (l := (ck + 1 + 1 + 1 + 1 + 1, 2000)) (n := inN get 0 4) (sz := 2) (get := fun j => [.int .i64 (WL j), .int .i64 (WH j)]) rfl (by simp [updH]) fun a b v _ hv => (ones2 v (List.mem_of_getElem? hv)).1, ?_⟩
                  simp (maxSteps := 4000000) only [go_sem, ↓op_move, ↓op_assign, ↓op_pick, ↓op_alloc, ↓op_box, ↓op_build, ↓op_buildSlice, ↓op_load, ↓op_store, ↓op_nilCheck, ↓op_bin, ↓op_un, ↓op_convert, ↓op_makeFunc, ↓op_makeSlice, ↓op_slice, ↓op_fieldAddr, ↓op_field, ↓op_indexAddr, ↓op_index, ↓op_extract, ↓op_lookup, ↓op_mapUpdate, ↓op_makeMap, ↓op_range, ↓op_next, ↓op_call, ↓op_builtin, ↓g_tt, ↓g_ff, ↓g_tf, ↓g_ft, ↓g_tnt, ↓g_tnf, ↓g_fnt, ↓g_fnf, ↓mkT_getD, hd, hp, hpx, hpen, hph, hpw, o3, o4, hmA, hmB, hmC, hmD, dec_self]
                  have hte : ∀ {lo hi : Nat → Int}, (IsIv (inN get 0 4) fun j => [.int .i64 (lo j), .int .i64 (hi j)]) := isIv_fn _ _ (by omega)
                  refine ⟨hown, ⟨hih, by omega⟩, ⟨hair, hih, by omega⟩, hown, ⟨hiw, by omega⟩, ⟨hair, hiw, by omega⟩, ?_⟩
                  refine RestT.loopF (β := Nat) [(6, 6), (20, 21), (23, 24), (241, 385)] (fun k => [(241, .int .i64 k)]) (fun _ => fun _ => none) (fun k => k ≤ inN get 0 4) (fun k => inN get 0 4 - k) 0 (Nat.zero_le _) ?_ HpLe.none ?_
                  · simp (maxSteps := 4000000) only [go_sem, ↓op_move, ↓op_assign, ↓op_pick, ↓op_alloc, ↓op_box, ↓op_build, ↓op_buildSlice, ↓op_load, ↓op_store, ↓op_nilCheck, ↓op_bin, ↓op_un, ↓op_convert, ↓op_makeFunc, ↓op_makeSlice, ↓op_slice, ↓op_fieldAddr, ↓op_field, ↓op_indexAddr, ↓op_index, ↓op_extract, ↓op_lookup, ↓op_mapUpdate, ↓op_makeMap, ↓op_range, ↓op_next, ↓op_call, ↓op_builtin, ↓g_tt, ↓g_ff, ↓g_tf, ↓g_ft, ↓g_tnt, ↓g_tnf, ↓g_fnt, ↓g_fnf, ↓mkT_getD]
                    try exact rfl
                  · intro ck3 k hck3 hk
                    generalize hq0 : exC _ _ _ _ _ = gg
                    by_cases hlt : k < inN get 0 4
                    · have hd : decide ((k : Int) < (inN get 0 4 : Int)) = true := by simp; omega
                      obtain ⟨hxi, hxb, hxc⟩ := hEb k hlt
                      have p1 := hpb k hlt
                      have p2 := hab k hlt
                      have p3 := hwb k hlt
                      have p4 := hfeas k hlt
                      have p5 := hmono k hlt
                      have p6 := emHi_max (hi := AH k) (pl := PL k)
                      have p7 := emHi_max (hi := WH k) (pl := PL k)
                      have hz0 : PH k = 0 → AL k = 0 := fun q => by rw [← hAL]; exact arr_zero p1.1 p1.2.1 q
                      have key1 := fun (y : Int) (h1 : 0 ≤ y) => emLo_le (lo := AL k) (ph := PH k) h1 (by omega) p2.1 hz0
                      have key2 := fun (y : Int) (h1 : y ≤ 10000000000000) => emHi_ge (hi := AH k) (pl := PL k) h1 p1.1 (by omega)
                      obtain ⟨LA, hLA⟩ : ∃ z, emLo (AL k) (PH k) = z := ⟨_, rfl⟩
                      obtain ⟨LB, hLB⟩ : ∃ z, emHi (AH k) (PL k) = z := ⟨_, rfl⟩
                      obtain ⟨MA, hMA⟩ : ∃ z, emLo (WL k) (PH k) = z := ⟨_, rfl⟩
                      obtain ⟨MB, hMB⟩ : ∃ z, emHi (WH k) (PL k) = z := ⟨_, rfl⟩
                      simp only [hLA, hLB, hMA, hMB] at p4 p5 p6 p7 key1 key2
                      have c1 : decide (LA < 0) = false := decide_eq_false (by omega)
                      have c2 : decide (10000000000000 < LB) = false := decide_eq_false (by omega)
                      have c3 : decide (1000 * cell x k 0 < LA) = false := decide_eq_false (by omega)
                      have c4 : decide (LB < 1000 * cell x k 0) = false := decide_eq_false (by omega)
                      have c5 : decide (LA < MA) = false := decide_eq_false (by omega)
                      have c6 : decide (MB < LB) = false := decide_eq_false (by omega)
                      rw [← hq0]
                      clear hq0
                      simp (maxSteps := 4000000) only [go_sem, ↓op_move, ↓op_assign, ↓op_pick, ↓op_alloc, ↓op_box, ↓op_build, ↓op_buildSlice, ↓op_load, ↓op_store, ↓op_nilCheck, ↓op_bin, ↓op_un, ↓op_convert, ↓op_makeFunc, ↓op_makeSlice, ↓op_slice, ↓op_fieldAddr, ↓op_field, ↓op_indexAddr, ↓op_index, ↓op_extract, ↓op_lookup, ↓op_mapUpdate, ↓op_makeMap, ↓op_range, ↓op_next, ↓op_call, ↓op_builtin, ↓g_tt, ↓g_ff, ↓g_tf, ↓g_ft, ↓g_tnt, ↓g_tnf, ↓g_fnt, ↓g_fnf, ↓mkT_getD, hd, hp, hpx, hxi, c1, c2, c3, c4, c5, c6, hLA, hLB, hMA, hMB]
                      have hio : 0 ≤ (k : Int) ∧ (k : Int) < (inN get 0 4 : Int) := ⟨by omega, by omega⟩
                      refine ⟨hio, hio, hio, hio, hio, hio, hio, hio, hio, hio, hio, hio, inK_of (by omega) (by omega), hio, inK_of (by omega) (by omega), ?_⟩
                      refine RestT.loopF (β := Nat) [(6, 6), (23, 24), (327, 384)] (fun t => [(327, .int .i64 t)]) (fun _ => fun _ => none) (fun t => t ≤ 4) (fun t => 4 - t) 0 (by omega) ?_ HpLe.none ?_
                      · simp (maxSteps := 4000000) only [go_sem, ↓op_move, ↓op_assign, ↓op_pick, ↓op_alloc, ↓op_box, ↓op_build, ↓op_buildSlice, ↓op_load, ↓op_store, ↓op_nilCheck, ↓op_bin, ↓op_un, ↓op_convert, ↓op_makeFunc, ↓op_makeSlice, ↓op_slice, ↓op_fieldAddr, ↓op_field, ↓op_indexAddr, ↓op_index, ↓op_extract, ↓op_lookup, ↓op_mapUpdate, ↓op_makeMap, ↓op_range, ↓op_next, ↓op_call, ↓op_builtin, ↓g_tt, ↓g_ff, ↓g_tf, ↓g_ft, ↓g_tnt, ↓g_tnf, ↓g_fnt, ↓g_fnf, ↓mkT_getD]
                        try exact rfl
                      · intro ck4 t hck4 ht
                        generalize hq0 : exC _ _ _ _ _ = gg
                        by_cases hlt2 : t < 4
                        · have hd2 : decide ((t : Int) < 4) = true := by simp; omega
                          obtain ⟨z, hz, hz1⟩ : ∃ z : Int, ([V.int .i64 LA, V.int .i64 LB, V.int .i64 (LA - 1), V.int .i64 (LB + 1)])[t]? = some (V.int .i64 z) ∧ -1 ≤ z := by
                            have h3 : t = 0 ∨ t = 1 ∨ t = 2 ∨ t = 3 := by omega
                            rcases h3 with rfl | rfl | rfl | rfl
                            · exact ⟨_, rfl, by omega⟩
                            · exact ⟨_, rfl, by omega⟩
                            · exact ⟨_, rfl, by omega⟩
                            · exact ⟨_, rfl, by omega⟩
                          by_cases y0 : z < 0
                          · have e0 : decide (z < 0) = true := decide_eq_true y0
                            rw [← hq0]
                            clear hq0
                            simp (maxSteps := 4000000) only [go_sem, ↓op_move, ↓op_assign, ↓op_pick, ↓op_alloc, ↓op_box, ↓op_build, ↓op_buildSlice, ↓op_load, ↓op_store, ↓op_nilCheck, ↓op_bin, ↓op_un, ↓op_convert, ↓op_makeFunc, ↓op_makeSlice, ↓op_slice, ↓op_fieldAddr, ↓op_field, ↓op_indexAddr, ↓op_index, ↓op_extract, ↓op_lookup, ↓op_mapUpdate, ↓op_makeMap, ↓op_range, ↓op_next, ↓op_call, ↓op_builtin, ↓g_tt, ↓g_ff, ↓g_tf, ↓g_ft, ↓g_tnt, ↓g_tnf, ↓g_fnt, ↓g_fnf, ↓mkT_getD, hd2, hz, e0, Int.toNat_natCast, Nat.mul_one, Option.map_some]
                            exact ⟨⟨by omega, by omega⟩, inK_of (by omega) (by omega), by omega, t + 1, hlt2, by omega, by rw [Int.natCast_add]; rfl, HpLe.none⟩
                          · have e0 : decide (z < 0) = false := decide_eq_false y0
                            by_cases y1 : 10000000000000 < z
                            · have e1 : decide (10000000000000 < z) = true := decide_eq_true y1
                              rw [← hq0]
                              clear hq0
                              simp (maxSteps := 4000000) only [go_sem, ↓op_move, ↓op_assign, ↓op_pick, ↓op_alloc, ↓op_box, ↓op_build, ↓op_buildSlice, ↓op_load, ↓op_store, ↓op_nilCheck, ↓op_bin, ↓op_un, ↓op_convert, ↓op_makeFunc, ↓op_makeSlice, ↓op_slice, ↓op_fieldAddr, ↓op_field, ↓op_indexAddr, ↓op_index, ↓op_extract, ↓op_lookup, ↓op_mapUpdate, ↓op_makeMap, ↓op_range, ↓op_next, ↓op_call, ↓op_builtin, ↓g_tt, ↓g_ff, ↓g_tf, ↓g_ft, ↓g_tnt, ↓g_tnf, ↓g_fnt, ↓g_fnf, ↓mkT_getD, hd2, hz, e0, e1, Int.toNat_natCast, Nat.mul_one, Option.map_some]
                              exact ⟨⟨by omega, by omega⟩, inK_of (by omega) (by omega), by omega, t + 1, hlt2, by omega, by rw [Int.natCast_add]; rfl, HpLe.none⟩
                            · have e1 : decide (10000000000000 < z) = false := decide_eq_false y1
                              have m1 := mul_le_of (a := z) (A := 10000000000000) (b := PL k) (B := 1000) (by omega) (by omega) p1.1 (by omega)
                              have m2 := mul_le_of (a := z) (A := 10000000000000) (b := PH k) (B := 1000) (by omega) (by omega) (by omega) p1.2.2
                              have f1 : decide (z * PL k ≤ AH k * 1000) = decide (z ≤ LB) := decide_eq_decide.2 (key2 z (by omega))
                              have f2 : decide (AL k * 1000 ≤ z * PH k) = decide (LA ≤ z) := decide_eq_decide.2 (key1 z (by omega))
                              cases g1 : decide (z ≤ LB) <;> cases g2 : decide (LA ≤ z)
                              all_goals
                                rw [← hq0]
                                clear hq0
                                simp (maxSteps := 4000000) only [go_sem, ↓op_move, ↓op_assign, ↓op_pick, ↓op_alloc, ↓op_box, ↓op_build, ↓op_buildSlice, ↓op_load, ↓op_store, ↓op_nilCheck, ↓op_bin, ↓op_un, ↓op_convert, ↓op_makeFunc, ↓op_makeSlice, ↓op_slice, ↓op_fieldAddr, ↓op_field, ↓op_indexAddr, ↓op_index, ↓op_extract, ↓op_lookup, ↓op_mapUpdate, ↓op_makeMap, ↓op_range, ↓op_next, ↓op_call, ↓op_builtin, ↓g_tt, ↓g_ff, ↓g_tf, ↓g_ft, ↓g_tnt, ↓g_tnf, ↓g_fnt, ↓g_fnf, ↓mkT_getD, hd2, hp, hpx, hz, e0, e1, f1, f2, g1, g2, hLA, hLB, nbf, nbt, Int.toNat_natCast, Nat.mul_one, Option.map_some]
                                (repeat' first | exact hio | exact ⟨by omega, by omega⟩ | exact inK_of (by omega) (by omega) | exact ⟨by omega, t + 1, hlt2, by omega, by rw [Int.natCast_add]; rfl, HpLe.none⟩ | refine ⟨?_, ?_⟩)
                        · have hd2 : decide ((t : Int) < 4) = false := by simp; omega
                          rw [← hq0]
                          clear hq0
                          simp (maxSteps := 4000000) only [go_sem, ↓op_move, ↓op_assign, ↓op_pick, ↓op_alloc, ↓op_box, ↓op_build, ↓op_buildSlice, ↓op_load, ↓op_store, ↓op_nilCheck, ↓op_bin, ↓op_un, ↓op_convert, ↓op_makeFunc, ↓op_makeSlice, ↓op_slice, ↓op_fieldAddr, ↓op_field, ↓op_indexAddr, ↓op_index, ↓op_extract, ↓op_lookup, ↓op_mapUpdate, ↓op_makeMap, ↓op_range, ↓op_next, ↓op_call, ↓op_builtin, ↓g_tt, ↓g_ff, ↓g_tf, ↓g_ft, ↓g_tnt, ↓g_tnf, ↓g_fnt, ↓g_fnf, ↓mkT_getD, hd2, hp, hpx]
                          exact ⟨inK_of (by omega) (by omega), by omega, k + 1, hlt, by omega, by rw [Int.natCast_add]; rfl, HpLe.none⟩
                    · have hd : decide ((k : Int) < (inN get 0 4 : Int)) = false := by simp; omega
                      rw [← hq0]
                      clear hq0
                      simp (maxSteps := 4000000) only [go_sem, ↓op_move, ↓op_assign, ↓op_pick, ↓op_alloc, ↓op_box, ↓op_build, ↓op_buildSlice, ↓op_load, ↓op_store, ↓op_nilCheck, ↓op_bin, ↓op_un, ↓op_convert, ↓op_makeFunc, ↓op_makeSlice, ↓op_slice, ↓op_fieldAddr, ↓op_field, ↓op_indexAddr, ↓op_index, ↓op_extract, ↓op_lookup, ↓op_mapUpdate, ↓op_makeMap, ↓op_range, ↓op_next, ↓op_call, ↓op_builtin, ↓g_tt, ↓g_ff, ↓g_tf, ↓g_ft, ↓g_tnt, ↓g_tnf, ↓g_fnt, ↓g_fnf, ↓mkT_getD, hd, hp, hpx]
                      refine .inl fun hX => airIn hX hair (by omega) (fun i hi => by have := hb9 i hi; omega) (fun l _ => rfl) fun L ck4 b hN hbi hL1 hL2 => ?_
                      obtain ⟨bi, nu, H0⟩ := b
                      have hbi : bi = n := hbi
                      obtain rfl : n = bi := hbi.symm
                      have hL : H0 L = some (.arr n 5 (ownRow get nu)) := hN.outer
                      have hnu : ∀ j, j < n → H0 (nu j) = some (.arr (inN get j 4) 2 (airR get j)) := hN.inner
                      have hne : ∀ j, j < n → nu j ≠ L := hN.ne
                      have hne2 : ∀ j, j < n → L ≠ nu j := fun j hj e => hne j hj e.symm
                      have hinj : ∀ j k, j < n → k < n → nu j = nu k → j = k := hN.inj
                      simp (maxSteps := 4000000) only [go_sem, ↓op_move, ↓op_assign, ↓op_pick, ↓op_alloc, ↓op_box, ↓op_build, ↓op_buildSlice, ↓op_load, ↓op_store, ↓op_nilCheck, ↓op_bin, ↓op_un, ↓op_convert, ↓op_makeFunc, ↓op_makeSlice, ↓op_slice, ↓op_fieldAddr, ↓op_field, ↓op_indexAddr, ↓op_index, ↓op_extract, ↓op_lookup, ↓op_mapUpdate, ↓op_makeMap, ↓op_range, ↓op_next, ↓op_call, ↓op_builtin, ↓g_tt, ↓g_ff, ↓g_tf, ↓g_ft, ↓g_tnt, ↓g_tnf, ↓g_fnt, ↓g_fnf, ↓mkT_getD, hp, hpx, hL, Nat.zero_add]
                      refine RestT.loopG (β := Nat × Heap) [(26, 27), (390, 420)] (fun b => [(390, .int .i64 b.1)]) (fun b => b.2)
                        (fun c b => b.1 ≤ n ∧ b.2 L = some (.arr n 5 (ownRow get nu)) ∧ ∀ j, j < n → b.2 (nu j) = some (.arr (inN get j 4) 2 (if j < b.1 then clrP (inG get j 4) else airR get j))) (fun b => n - b.1) (0, H0)
                        ⟨Nat.zero_le _, hL, fun j hj => by rw [if_neg (Nat.not_lt_zero _)]; exact hnu j hj⟩ ?_ (HpLe.refl H0) ?_
                      · simp (maxSteps := 4000000) only [go_sem, ↓op_move, ↓op_assign, ↓op_pick, ↓op_alloc, ↓op_box, ↓op_build, ↓op_buildSlice, ↓op_load, ↓op_store, ↓op_nilCheck, ↓op_bin, ↓op_un, ↓op_convert, ↓op_makeFunc, ↓op_makeSlice, ↓op_slice, ↓op_fieldAddr, ↓op_field, ↓op_indexAddr, ↓op_index, ↓op_extract, ↓op_lookup, ↓op_mapUpdate, ↓op_makeMap, ↓op_range, ↓op_next, ↓op_call, ↓op_builtin, ↓g_tt, ↓g_ff, ↓g_tf, ↓g_ft, ↓g_tnt, ↓g_tnf, ↓g_fnt, ↓g_fnf, ↓mkT_getD]
                        try exact rfl
                      · intro ck5 b hck5 hI
                        generalize hq0 : exC _ _ _ _ _ = gg
                        obtain ⟨i, H1⟩ := b
                        obtain ⟨hi, hL, hnu⟩ := hI
                        have hi : i ≤ n := hi
                        have hL : H1 L = some (.arr n 5 (ownRow get nu)) := hL
                        have hnu : ∀ j, j < n → H1 (nu j) = some (.arr (inN get j 4) 2 (if j < i then clrP (inG get j 4) else airR get j)) := hnu
                        by_cases hlt3 : i < n
                        · have hd3 : decide ((i : Int) < (n : Int)) = true := by simp; omega
                          have hrow : ownRow get nu i = [.int .i64 (cell get i 0), .int .i64 (cell get i 1), .int .i64 (cell get i 2), .int .i64 (cell get i 3), .msl (nu i) 0 (inN get i 4)] := rfl
                          have hni : H1 (nu i) = some (.arr (inN get i 4) 2 (airR get i)) := by rw [hnu i hlt3, if_neg (Nat.lt_irrefl _)]
                          rw [← hq0]
                          clear hq0
                          simp (maxSteps := 4000000) only [go_sem, ↓op_move, ↓op_assign, ↓op_pick, ↓op_alloc, ↓op_box, ↓op_build, ↓op_buildSlice, ↓op_load, ↓op_store, ↓op_nilCheck, ↓op_bin, ↓op_un, ↓op_convert, ↓op_makeFunc, ↓op_makeSlice, ↓op_slice, ↓op_fieldAddr, ↓op_field, ↓op_indexAddr, ↓op_index, ↓op_extract, ↓op_lookup, ↓op_mapUpdate, ↓op_makeMap, ↓op_range, ↓op_next, ↓op_call, ↓op_builtin, ↓g_tt, ↓g_ff, ↓g_tf, ↓g_ft, ↓g_tnt, ↓g_tnf, ↓g_fnt, ↓g_fnf, ↓mkT_getD, hd3, hp, hpx, hL, hrow, hni, Nat.zero_add]
                          have hio3 : 0 ≤ (i : Int) ∧ (i : Int) < (n : Int) := ⟨by omega, by omega⟩
                          have hbi8 := hb9 i hlt3
                          refine ⟨hio3, ?_⟩
                          refine RestT.loopF (β := Nat × Heap) [(27, 27), (399, 419)] (fun b => [(399, .int .i64 b.1)]) (fun b => b.2)
                            (fun b => b.1 ≤ inN get i 4 ∧ b.2 L = some (.arr n 5 (ownRow get nu)) ∧ b.2 (nu i) = some (.arr (inN get i 4) 2 (mixR (clrP (inG get i 4)) (airR get i) b.1)) ∧
                              ∀ j, j < n → j ≠ i → b.2 (nu j) = some (.arr (inN get j 4) 2 (if j < i then clrP (inG get j 4) else airR get j))) (fun b => inN get i 4 - b.1) (0, H1)
                            ⟨Nat.zero_le _, hL, by rw [mixR_zero]; exact hni, fun j hj _ => hnu j hj⟩ ?_ (HpLe.refl H1) ?_
                          · simp (maxSteps := 4000000) only [go_sem, ↓op_move, ↓op_assign, ↓op_pick, ↓op_alloc, ↓op_box, ↓op_build, ↓op_buildSlice, ↓op_load, ↓op_store, ↓op_nilCheck, ↓op_bin, ↓op_un, ↓op_convert, ↓op_makeFunc, ↓op_makeSlice, ↓op_slice, ↓op_fieldAddr, ↓op_field, ↓op_indexAddr, ↓op_index, ↓op_extract, ↓op_lookup, ↓op_mapUpdate, ↓op_makeMap, ↓op_range, ↓op_next, ↓op_call, ↓op_builtin, ↓g_tt, ↓g_ff, ↓g_tf, ↓g_ft, ↓g_tnt, ↓g_tnf, ↓g_fnt, ↓g_fnf, ↓mkT_getD]
                            try exact rfl
                          · intro ck6 b hck6 hI
                            generalize hq0 : exC _ _ _ _ _ = gg
                            obtain ⟨k, H2⟩ := b
                            obtain ⟨hk, hL, hni, hnu⟩ := hI
                            have hk : k ≤ inN get i 4 := hk
                            have hL : H2 L = some (.arr n 5 (ownRow get nu)) := hL
                            have hni : H2 (nu i) = some (.arr (inN get i 4) 2 (mixR (clrP (inG get i 4)) (airR get i) k)) := hni
                            have hnu : ∀ j, j < n → j ≠ i → H2 (nu j) = some (.arr (inN get j 4) 2 (if j < i then clrP (inG get j 4) else airR get j)) := hnu
                            by_cases hltk : k < inN get i 4
                            · have hd4 : decide ((k : Int) < (inN get i 4 : Int)) = true := by simp; omega
                              have hmix : mixR (clrP (inG get i 4)) (airR get i) k k = [.int .i64 (cell (inG get i 4) k 0), .int .i64 (cell (inG get i 4) k 1)] := mixR_at
                              rw [← hq0]
                              clear hq0
                              simp (maxSteps := 4000000) only [go_sem, ↓op_move, ↓op_assign, ↓op_pick, ↓op_alloc, ↓op_box, ↓op_build, ↓op_buildSlice, ↓op_load, ↓op_store, ↓op_nilCheck, ↓op_bin, ↓op_un, ↓op_convert, ↓op_makeFunc, ↓op_makeSlice, ↓op_slice, ↓op_fieldAddr, ↓op_field, ↓op_indexAddr, ↓op_index, ↓op_extract, ↓op_lookup, ↓op_mapUpdate, ↓op_makeMap, ↓op_range, ↓op_next, ↓op_call, ↓op_builtin, ↓g_tt, ↓g_ff, ↓g_tf, ↓g_ft, ↓g_tnt, ↓g_tnf, ↓g_fnt, ↓g_fnf, ↓mkT_getD, hd4, hp, hpx, hL, hrow, hni, hmix, hne2 i hlt3, Nat.zero_add]
                              have hik : 0 ≤ (k : Int) ∧ (k : Int) < (inN get i 4 : Int) := ⟨by omega, by omega⟩
                              refine ⟨hio3, hio3, hik, hik, inK_of (by omega) (by omega), by omega, (k + 1, updH H2 (nu i) (.arr (inN get i 4) 2 (mixR (clrP (inG get i 4)) (airR get i) (k + 1)))), ⟨hltk, ?_, updH_same _ _ _, fun j hj hji => ?_⟩, by show inN get i 4 - (k + 1) < inN get i 4 - k; omega, by show V.int .i64 ((k : Int) + 1) = V.int .i64 ((k + 1 : Nat) : Int); rfl, HpLe.same (objLe_arr fun c hc => ?_)⟩
                              · show updH _ _ _ L = _
                                rw [updH_ne (hne2 i hlt3)]; exact hL
                              · show updH _ _ _ (nu j) = _
                                rw [updH_ne (fun e => hji (hinj j i hj hlt3 e))]; exact hnu j hj hji
                              · rw [mixR_succ]
                                by_cases e : c = k
                                · rw [if_pos e, if_pos e]; rfl
                                · rw [if_neg e, if_neg e]
                            · have hd4 : decide ((k : Int) < (inN get i 4 : Int)) = false := by simp; omega
                              obtain rfl : k = inN get i 4 := by omega
                              rw [← hq0]
                              clear hq0
                              simp (maxSteps := 4000000) only [go_sem, ↓op_move, ↓op_assign, ↓op_pick, ↓op_alloc, ↓op_box, ↓op_build, ↓op_buildSlice, ↓op_load, ↓op_store, ↓op_nilCheck, ↓op_bin, ↓op_un, ↓op_convert, ↓op_makeFunc, ↓op_makeSlice, ↓op_slice, ↓op_fieldAddr, ↓op_field, ↓op_indexAddr, ↓op_index, ↓op_extract, ↓op_lookup, ↓op_mapUpdate, ↓op_makeMap, ↓op_range, ↓op_next, ↓op_call, ↓op_builtin, ↓g_tt, ↓g_ff, ↓g_tf, ↓g_ft, ↓g_tnt, ↓g_tnf, ↓g_fnt, ↓g_fnf, ↓mkT_getD, hd4, hp, hpx, hL, Nat.zero_add]
                              refine ⟨inK_of (by omega) (by omega), by omega, (i + 1, updH H2 (nu i) (.arr (inN get i 4) 2 (clrP (inG get i 4)))), ⟨hlt3, ?_, fun j hj => ?_⟩, by show n - (i + 1) < n - i; omega, by show V.int .i64 ((i : Int) + 1) = V.int .i64 ((i + 1 : Nat) : Int); rfl, HpLe.upd1 hni (objLe_arr fun c hc => (mixR_all hc).symm)⟩
                              · show updH _ _ _ L = _
                                rw [updH_ne (hne2 i hlt3)]; exact hL
                              · show updH _ _ _ (nu j) = some (.arr (inN get j 4) 2 (if j < i + 1 then clrP (inG get j 4) else airR get j))
                                by_cases e : j = i
                                · subst e; rw [updH_same, if_pos (Nat.lt_succ_self j)]
                                · rw [updH_ne (fun q => e (hinj j i hj hlt3 q))]; refine Eq.trans (hnu j hj e) ?_
                                  by_cases h : j < i
                                  · rw [if_pos h, if_pos (by omega)]
                                  · rw [if_neg h, if_neg (by omega)]
                        · have hd3 : decide ((i : Int) < (n : Int)) = false := by simp; omega
                          obtain rfl : n = i := by omega
                          rw [← hq0]
                          clear hq0
                          simp (maxSteps := 4000000) only [go_sem, ↓op_move, ↓op_assign, ↓op_pick, ↓op_alloc, ↓op_box, ↓op_build, ↓op_buildSlice, ↓op_load, ↓op_store, ↓op_nilCheck, ↓op_bin, ↓op_un, ↓op_convert, ↓op_makeFunc, ↓op_makeSlice, ↓op_slice, ↓op_fieldAddr, ↓op_field, ↓op_indexAddr, ↓op_index, ↓op_extract, ↓op_lookup, ↓op_mapUpdate, ↓op_makeMap, ↓op_range, ↓op_next, ↓op_call, ↓op_builtin, ↓g_tt, ↓g_ff, ↓g_tf, ↓g_ft, ↓g_tnt, ↓g_tnf, ↓g_fnt, ↓g_fnf, ↓mkT_getD, hd3, hp, hpx, hL, Nat.zero_add]
                          refine ⟨_, Ents.freeze (frzLe.set (d := 25) frzLe.refl rfl (frz_clr hL fun j hj => by rw [hnu j hj, if_pos hj])), ?_⟩
                          have hpT := (isAir_clr hair).pu
                          have hcc : checkE n (clrG get) a b c d e f = 0 := checkE_zero.2 ⟨airE_clr h0, hpath⟩
                          have o5 := orE_noA hcc
                          obtain ⟨QL, hQL2'⟩ : ∃ P : Nat → Int, ∀ i, dLo n (clrG get) a b c d e f i = P i := ⟨_, fun _ => rfl⟩
                          obtain ⟨QH, hQH2'⟩ : ∃ P : Nat → Int, ∀ i, dHi n (clrG get) a b c d e f i = P i := ⟨_, fun _ => rfl⟩
                          have hQL2 : ∀ i, qLo n (clrG get) (sqE a b c d e f) (min c f) (max c f) 0 0 c i = QL i := fun i => hQL2' i
                          have hQH2 : ∀ i, qHi n (clrG get) (sqE a b c d e f) (min c f) (max c f) 0 0 c i = QH i := fun i => hQH2' i
                          have hnn : inN (clrG get) 0 4 = inN get 0 4 := rfl
                          have hpQ := (isIv_fn (n := inN get 0 4) QL QH (by omega)).pu
                          simp (maxSteps := 4000000) only [go_sem, ↓op_move, ↓op_assign, ↓op_pick, ↓op_alloc, ↓op_box, ↓op_build, ↓op_buildSlice, ↓op_load, ↓op_store, ↓op_nilCheck, ↓op_bin, ↓op_un, ↓op_convert, ↓op_makeFunc, ↓op_makeSlice, ↓op_slice, ↓op_fieldAddr, ↓op_field, ↓op_indexAddr, ↓op_index, ↓op_extract, ↓op_lookup, ↓op_mapUpdate, ↓op_makeMap, ↓op_range, ↓op_next, ↓op_call, ↓op_builtin, ↓g_tt, ↓g_ff, ↓g_tf, ↓g_ft, ↓g_tnt, ↓g_tnf, ↓g_fnt, ↓g_fnf, ↓mkT_getD, hp, hpx, hpT, o5, hQL2, hQH2, hnn, hpQ, dec_self]
                          refine ⟨isAir_clr hair, ?_⟩
                          refine RestT.loopF (β := Nat) [(6, 6), (30, 30), (439, 466)] (fun k => [(439, .int .i64 k)]) (fun _ => fun _ => none) (fun k => k ≤ inN get 0 4) (fun k => inN get 0 4 - k) 0 (Nat.zero_le _) ?_ HpLe.none ?_
                          · simp (maxSteps := 4000000) only [go_sem, ↓op_move, ↓op_assign, ↓op_pick, ↓op_alloc, ↓op_box, ↓op_build, ↓op_buildSlice, ↓op_load, ↓op_store, ↓op_nilCheck, ↓op_bin, ↓op_un, ↓op_convert, ↓op_makeFunc, ↓op_makeSlice, ↓op_slice, ↓op_fieldAddr, ↓op_field, ↓op_indexAddr, ↓op_index, ↓op_extract, ↓op_lookup, ↓op_mapUpdate, ↓op_makeMap, ↓op_range, ↓op_next, ↓op_call, ↓op_builtin, ↓g_tt, ↓g_ff, ↓g_tf, ↓g_ft, ↓g_tnt, ↓g_tnf, ↓g_fnt, ↓g_fnf, ↓mkT_getD]
                            try exact rfl
                          · intro ck7 k hck7 hk
                            generalize hq0 : exC _ _ _ _ _ = gg
                            by_cases hltk : k < inN get 0 4
                            · have hd4 : decide ((k : Int) < (inN get 0 4 : Int)) = true := by simp; omega
                              have r1 := d_clr hok hpath hltk
                              rw [hPL', hPH', hQL2', hQH2'] at r1
                              have e1 : decide (QL k < PL k) = false := decide_eq_false (by omega)
                              have e2 : decide (QH k = PH k) = true := decide_eq_true r1.2
                              rw [← hq0]
                              clear hq0
                              simp (maxSteps := 4000000) only [go_sem, ↓op_move, ↓op_assign, ↓op_pick, ↓op_alloc, ↓op_box, ↓op_build, ↓op_buildSlice, ↓op_load, ↓op_store, ↓op_nilCheck, ↓op_bin, ↓op_un, ↓op_convert, ↓op_makeFunc, ↓op_makeSlice, ↓op_slice, ↓op_fieldAddr, ↓op_field, ↓op_indexAddr, ↓op_index, ↓op_extract, ↓op_lookup, ↓op_mapUpdate, ↓op_makeMap, ↓op_range, ↓op_next, ↓op_call, ↓op_builtin, ↓g_tt, ↓g_ff, ↓g_tf, ↓g_ft, ↓g_tnt, ↓g_tnf, ↓g_fnt, ↓g_fnf, ↓mkT_getD, hd4, hp, hpx, e1, e2]
                              have hio : 0 ≤ (k : Int) ∧ (k : Int) < (inN get 0 4 : Int) := ⟨by omega, by omega⟩
                              exact ⟨hio, hio, hio, hio, inK_of (by omega) (by omega), by omega, k + 1, hltk, by omega, by rw [Int.natCast_add]; rfl, HpLe.none⟩
                            · have hd4 : decide ((k : Int) < (inN get 0 4 : Int)) = false := by simp; omega
                              rw [← hq0]
                              clear hq0
                              simp (maxSteps := 4000000) only [go_sem, ↓op_move, ↓op_assign, ↓op_pick, ↓op_alloc, ↓op_box, ↓op_build, ↓op_buildSlice, ↓op_load, ↓op_store, ↓op_nilCheck, ↓op_bin, ↓op_un, ↓op_convert, ↓op_makeFunc, ↓op_makeSlice, ↓op_slice, ↓op_fieldAddr, ↓op_field, ↓op_indexAddr, ↓op_index, ↓op_extract, ↓op_lookup, ↓op_mapUpdate, ↓op_makeMap, ↓op_range, ↓op_next, ↓op_call, ↓op_builtin, ↓g_tt, ↓g_ff, ↓g_tf, ↓g_ft, ↓g_tnt, ↓g_tnf, ↓g_fnt, ↓g_fnf, ↓mkT_getD, hd4, hp, hpx]
                              exact VEnt.refl _
      · have d1 : decide (pathE a b c d e f = 0) = false := decide_eq_false h1
        simp only [Proofs.Tryz.f11]
        rw [enter_mkT (Nat.le_of_ble_eq_true rfl)]
        simp (maxSteps := 4000000) only [go_sem, ↓op_move, ↓op_assign, ↓op_pick, ↓op_alloc, ↓op_box, ↓op_build, ↓op_buildSlice, ↓op_load, ↓op_store, ↓op_nilCheck, ↓op_bin, ↓op_un, ↓op_convert, ↓op_makeFunc, ↓op_makeSlice, ↓op_slice, ↓op_fieldAddr, ↓op_field, ↓op_indexAddr, ↓op_index, ↓op_extract, ↓op_lookup, ↓op_mapUpdate, ↓op_makeMap, ↓op_range, ↓op_next, ↓op_call, ↓op_builtin, ↓g_tt, ↓g_ff, ↓g_tf, ↓g_ft, ↓g_tnt, ↓g_tnf, ↓g_fnt, ↓g_fnf, ↓mkT_getD, hp, hpx, hsh, d0, d1]
        exact ⟨hair, hair, VEnt.refl _⟩
    · have d0 : decide (airE n get = 0) = false := decide_eq_false h0
      simp only [Proofs.Tryz.f11]
      rw [enter_mkT (Nat.le_of_ble_eq_true rfl)]
      simp (maxSteps := 4000000) only [go_sem, ↓op_move, ↓op_assign, ↓op_pick, ↓op_alloc, ↓op_box, ↓op_build, ↓op_buildSlice, ↓op_load, ↓op_store, ↓op_nilCheck, ↓op_bin, ↓op_un, ↓op_convert, ↓op_makeFunc, ↓op_makeSlice, ↓op_slice, ↓op_fieldAddr, ↓op_field, ↓op_indexAddr, ↓op_index, ↓op_extract, ↓op_lookup, ↓op_mapUpdate, ↓op_makeMap, ↓op_range, ↓op_next, ↓op_call, ↓op_builtin, ↓g_tt, ↓g_ff, ↓g_tf, ↓g_ft, ↓g_tnt, ↓g_tnf, ↓g_fnt, ↓g_fnf, ↓mkT_getD, hp, hpx, hsh, d0]
      exact ⟨hair, hair, VEnt.refl _⟩
end Go.Fly.Tryz
end
