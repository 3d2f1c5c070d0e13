/- Part of a proof: an evaluator of the model's code by abstract values, and plain laws for it. No conditions. -/
import Derived.Test.YtmlknpghkclffaaGreatDoorSYAHG
import Derived.Test.YtmlknpghkclffaaGreatDoorBC
set_option linter.unusedSimpArgs false
set_option linter.unusedVariables false
section
/- A quotient in its lowest terms, of greater numbers. -/
set_option maxRecDepth 100000
set_option maxHeartbeats 4000000
namespace Go.Fly.Tryz
open Go

theorem qDivB_ok : Holds Proofs.Tryz.prog G0 130 divBC := by
  refine Holds.of_exC D130 Proofs.Tryz.func130 rfl foll (by kernel_rfl) (tab []) (tab_ok trivial) G0_ok fun k0 rl args hpu hpre => ?_
  unfold divBC at hpre ⊢
  split at hpre
  rotate_left
  · exact hpre.elim
  rename_i a b
  obtain ⟨h1, h2, h3, h4⟩ := hpre
  obtain ⟨a, rfl⟩ := Int.eq_ofNat_of_zero_le h1
  obtain ⟨b, rfl⟩ := Int.eq_ofNat_of_zero_le h3
  have ma : max (a : Int) (0 - a) = a := by omega
  have mb : max (b : Int) (0 - b) = b := by omega
  simp only [Proofs.Tryz.f130]
  rw [enter_mkT (Nat.le_of_ble_eq_true rfl)]
  simp (maxSteps := 4000000) only [go_sem, ↓op_move, ↓op_assign, ↓op_pick, ↓op_alloc, ↓op_box, ↓op_build, ↓op_buildSlice, ↓op_load, ↓op_store, ↓op_nilCheck, ↓op_bin, ↓op_un, ↓op_convert, ↓op_makeFunc, ↓op_makeSlice, ↓op_slice, ↓op_fieldAddr, ↓op_field, ↓op_indexAddr, ↓op_index, ↓op_extract, ↓op_lookup, ↓op_mapUpdate, ↓op_makeMap, ↓op_range, ↓op_next, ↓op_call, ↓op_builtin, ↓g_tt, ↓g_ff, ↓g_tf, ↓g_ft, ↓g_tnt, ↓g_tnf, ↓g_fnt, ↓g_fnf, ↓mkT_getD, Int.toNat_natCast, ma, mb]
  refine ⟨inK_of (by omega) (by omega), inK_of (by omega) (by omega), ?_⟩
  refine RestT.loopF (β := Nat × Nat) [(0, 1), (13, 18)] (fun s => [(0, .int .i64 s.1), (1, .int .i64 s.2)]) (fun _ => fun _ => none) (fun s => Nat.gcd s.1 s.2 = Nat.gcd a b ∧ s.1 ≤ 10000000000000 ∧ s.2 ≤ 10000000000000) (fun s => s.2) (a, b) ⟨rfl, by omega, by omega⟩ ?_ HpLe.none ?_
  · simp (maxSteps := 4000000) only [go_sem, ↓op_move, ↓op_assign, ↓op_pick, ↓op_alloc, ↓op_box, ↓op_build, ↓op_buildSlice, ↓op_load, ↓op_store, ↓op_nilCheck, ↓op_bin, ↓op_un, ↓op_convert, ↓op_makeFunc, ↓op_makeSlice, ↓op_slice, ↓op_fieldAddr, ↓op_field, ↓op_indexAddr, ↓op_index, ↓op_extract, ↓op_lookup, ↓op_mapUpdate, ↓op_makeMap, ↓op_range, ↓op_next, ↓op_call, ↓op_builtin, ↓g_tt, ↓g_ff, ↓g_tf, ↓g_ft, ↓g_tnt, ↓g_tnf, ↓g_fnt, ↓g_fnf, ↓mkT_getD]
    try exact rfl
  · intro ck s hck hI
    obtain ⟨x, y⟩ := s
    obtain ⟨hg, hx, hy⟩ := hI
    have hg : Nat.gcd x y = Nat.gcd a b := hg
    have hx : x ≤ 10000000000000 := hx
    have hy : y ≤ 10000000000000 := hy
    generalize hq0 : exC _ _ _ _ _ = gg
    by_cases hy0 : y = 0
    · have hd : decide ((y : Int) = 0) = true := by simp; omega
      rw [← hq0]
      clear hq0
      simp (maxSteps := 4000000) only [go_sem, ↓op_move, ↓op_assign, ↓op_pick, ↓op_alloc, ↓op_box, ↓op_build, ↓op_buildSlice, ↓op_load, ↓op_store, ↓op_nilCheck, ↓op_bin, ↓op_un, ↓op_convert, ↓op_makeFunc, ↓op_makeSlice, ↓op_slice, ↓op_fieldAddr, ↓op_field, ↓op_indexAddr, ↓op_index, ↓op_extract, ↓op_lookup, ↓op_mapUpdate, ↓op_makeMap, ↓op_range, ↓op_next, ↓op_call, ↓op_builtin, ↓g_tt, ↓g_ff, ↓g_tf, ↓g_ft, ↓g_tnt, ↓g_tnf, ↓g_fnt, ↓g_fnf, ↓mkT_getD, hd]
      subst hy0
      rw [← hg, Nat.gcd_zero_right]
      exact VEnt.refl _
    · have hd : decide ((y : Int) = 0) = false := by simp; omega
      have hm : ((x : Int).tmod (y : Int)) = ((x % y : Nat) : Int) := by
        rw [Int.tmod_eq_emod_of_nonneg (by omega)]; exact (Int.natCast_emod x y).symm
      rw [← hq0]
      clear hq0
      simp (maxSteps := 4000000) only [go_sem, ↓op_move, ↓op_assign, ↓op_pick, ↓op_alloc, ↓op_box, ↓op_build, ↓op_buildSlice, ↓op_load, ↓op_store, ↓op_nilCheck, ↓op_bin, ↓op_un, ↓op_convert, ↓op_makeFunc, ↓op_makeSlice, ↓op_slice, ↓op_fieldAddr, ↓op_field, ↓op_indexAddr, ↓op_index, ↓op_extract, ↓op_lookup, ↓op_mapUpdate, ↓op_makeMap, ↓op_range, ↓op_next, ↓op_call, ↓op_builtin, ↓g_tt, ↓g_ff, ↓g_tf, ↓g_ft, ↓g_tnt, ↓g_tnf, ↓g_fnt, ↓g_fnf, ↓mkT_getD, hd, hm]
      have hlt := Nat.mod_lt x (Nat.pos_of_ne_zero hy0)
      refine ⟨by omega, by omega, (y, x % y), ⟨by rw [← hg]; show Nat.gcd y (x % y) = Nat.gcd x y; rw [Nat.gcd_comm x y, Nat.gcd_rec y x, Nat.gcd_comm], hy, by show x % y ≤ _; omega⟩, hlt, ⟨rfl, rfl⟩, ?_⟩
      first | exact HpLe.refl _ | exact HpLe.none | trace_state

theorem qLowB_ok : Holds Proofs.Tryz.prog G0 69 lowBC := by
  refine Holds.of_exC D69 Proofs.Tryz.func69 rfl foll (by kernel_rfl) (tab [(130, divBC)]) (tab_ok ⟨qDivB_ok, trivial⟩) G0_ok fun k0 rl args hpu hpre => ?_
  unfold lowBC at hpre ⊢
  split at hpre
  rotate_left
  · exact hpre.elim
  rename_i a b
  obtain ⟨⟨h1, h2⟩, h3, h4⟩ := hpre
  have hd : decide (b < 0) = false := decide_eq_false (by omega)
  have hg : 0 < Nat.gcd a.toNat b.toNat := Nat.gcd_pos_of_pos_right _ (by omega)
  have t1 := tdiv_in (x := a) (m := 10000000000000) (Nat.gcd a.toNat b.toNat) (by omega) (by omega)
  have t2 := tdiv_in (x := b) (m := 10000000000000) (Nat.gcd a.toNat b.toNat) (by omega) (by omega)
  simp only [Proofs.Tryz.f69]
  rw [enter_mkT (Nat.le_of_ble_eq_true rfl)]
  simp (maxSteps := 4000000) only [go_sem, ↓op_move, ↓op_assign, ↓op_pick, ↓op_alloc, ↓op_box, ↓op_build, ↓op_buildSlice, ↓op_load, ↓op_store, ↓op_nilCheck, ↓op_bin, ↓op_un, ↓op_convert, ↓op_makeFunc, ↓op_makeSlice, ↓op_slice, ↓op_fieldAddr, ↓op_field, ↓op_indexAddr, ↓op_index, ↓op_extract, ↓op_lookup, ↓op_mapUpdate, ↓op_makeMap, ↓op_range, ↓op_next, ↓op_call, ↓op_builtin, ↓g_tt, ↓g_ff, ↓g_tf, ↓g_ft, ↓g_tnt, ↓g_tnf, ↓g_fnt, ↓g_fnf, ↓mkT_getD, hd]
  exact ⟨⟨by omega, by omega, by omega, by omega⟩, ⟨by omega, inK_of (by omega) (by omega)⟩, ⟨by omega, inK_of (by omega) (by omega)⟩, VEnt.refl _⟩
end Go.Fly.Tryz
end
section
/- The law on the ground. -/
set_option maxRecDepth 100000
set_option maxHeartbeats 16000000
namespace Go.Fly.Tryz
open Go

theorem wEchoes_ok : Holds Proofs.Tryz.prog G0 12 airEchoC := by
  refine Holds.of_exC D12 Proofs.Tryz.func12 rfl foll (by kernel_rfl) (tab [(15, awakeC), (16, shortAirC), (17, airC), (19, ownAirC), (30, toPathRC), (32, pathC), (41, arr3C), (42, ownIntsC), (67, fac3C), (68, share3C), (69, lowBC), (70, tot3C), (iceKey 4, iceC), (iceKey 5, iceC)]) (tab_ok ⟨lAwake_ok, rAirShort_ok, rAir_ok, lOwn_ok, lPath_ok, rPth_ok, gArr_ok, lInts_ok, gFac_ok, gShare_ok, qLowB_ok, gTot_ok, ice_holds, ice_holds, trivial⟩) G0_ok fun k0 rl args hpu hpre => ?_
  unfold airEchoC at hpre ⊢
  split at hpre
  rotate_left
  · exact hpre.elim
  rename_i n sz get a b c d e f u v w
  obtain ⟨rfl, hair, hu, hv, hw⟩ := hpre
  have hp := hair.pu
  have hn := hair.1
  cases hsh : shortAirB n get
  · simp only [Proofs.Tryz.f12]
    rw [enter_mkT (Nat.le_of_ble_eq_true rfl)]
    simp (maxSteps := 4000000) only [go_sem, ↓op_move, ↓op_assign, ↓op_pick, ↓op_alloc, ↓op_box, ↓op_build, ↓op_buildSlice, ↓op_load, ↓op_store, ↓op_nilCheck, ↓op_bin, ↓op_un, ↓op_convert, ↓op_makeFunc, ↓op_makeSlice, ↓op_slice, ↓op_fieldAddr, ↓op_field, ↓op_indexAddr, ↓op_index, ↓op_extract, ↓op_lookup, ↓op_mapUpdate, ↓op_makeMap, ↓op_range, ↓op_next, ↓op_call, ↓op_builtin, ↓g_tt, ↓g_ff, ↓g_tf, ↓g_ft, ↓g_tnt, ↓g_tnf, ↓g_fnt, ↓g_fnf, ↓mkT_getD, hp, hsh]
    exact ⟨hair, VEnt.refl _⟩
  · by_cases h0 : airE n get = 0
    · have d0 : decide (airE n get = 0) = true := decide_eq_true h0
      by_cases h1 : pathE a b c d e f = 0
      · have d1 : decide (pathE a b c d e f = 0) = true := decide_eq_true h1
        obtain ⟨hn9, hb9⟩ := short_use hsh
        have hown : IsAir n get ∧ n ≤ 1000 ∧ ∀ i, i < n → inN get i 4 ≤ 1000 := ⟨hair, by omega, fun i hi => by have := hb9 i hi; omega⟩
        have hce : checkE n get a b c d e f = 0 := firstL_zero.2 fun z hz => by
          simp only [List.mem_cons, List.not_mem_nil, or_false] at hz
          rcases hz with rfl | rfl
          · exact h0
          · exact h1
        have hpath := (checkE_zero.1 hce).2
        have hok := airE_ok h0
        have hcnt := hok.cnt
        have hb8 := hok.bands
        obtain ⟨hg0, hiv0⟩ := hair.2 0 hcnt.1
        have hp0 := hiv0.pu
        have ub := tmod_bd (a := u) (b := 1001) hu.1 (by decide)
        have vb := tmod_bd (a := v) (b := 2001) hv.1 (by decide)
        have hwb : 0 ≤ 100 * w ∧ 100 * w ≤ 6553500 := by omega
        obtain ⟨RE, hRE⟩ : ∃ r, u.tmod 1001 = r := ⟨_, rfl⟩
        obtain ⟨IM, hIM⟩ : ∃ r, v.tmod 2001 - 1000 = r := ⟨_, rfl⟩
        obtain ⟨E, hE⟩ : ∃ r, 100 * w = r := ⟨_, rfl⟩
        rw [hE] at hwb
        have r0 : 0 ≤ RE ∧ RE ≤ 1000 := by omega
        have i0 : -1000 ≤ IM ∧ IM ≤ 1000 := by omega
        have himp := imp_of r0.1 r0.2 i0.1 i0.2
        have himp2 := imp_of (im := -IM) r0.1 r0.2 (by omega) (by omega)
        have hi1 : (∃ re im, ImpOk (FloatKind.f64.nearest RE) (FloatKind.f64.nearest IM) re im) = True := eq_true ⟨_, _, himp⟩
        have hi2 : (∃ re im, ImpOk (FloatKind.f64.nearest RE) (FloatKind.f64.nearest (-IM)) re im) = True := eq_true ⟨_, _, himp2⟩
        have n1 := reI_near (n := RE) (by omega) r0.2
        have n2 := reI_near i0.1 i0.2
        have n3 := reI_near (n := -IM) (by omega) (by omega)
        obtain ⟨fe1, fe2, fe3, fe4, fe5⟩ := fac_neg RE IM
        have fr := fac_r (im := IM) r0.1
        have fb := facR_bd r0.1 r0.2 i0.1 i0.2 fr
        have ls := low_share r0.1 fr fb.1
        have sb := share_bd (im := IM) r0.1 r0.2 i0.1 i0.2
        have sw := share_whole (im := IM) r0.1
        have fn := fac_neg2 IM (facBy RE IM)
        obtain ⟨F, hF⟩ : ∃ r, (facTop RE IM).tdiv (facBy RE IM) = r := ⟨_, rfl⟩
        obtain ⟨G, hG⟩ : ∃ r, (2 * IM).tdiv (facBy RE IM) = r := ⟨_, rfl⟩
        obtain ⟨N, hN⟩ : ∃ r, (facDen RE IM).tdiv (facBy RE IM) = r := ⟨_, rfl⟩
        obtain ⟨S, hS⟩ : ∃ r, (shNum RE IM).tdiv (shBy RE IM) = r := ⟨_, rfl⟩
        obtain ⟨D, hD⟩ : ∃ r, (facDen RE IM).tdiv (shBy RE IM) = r := ⟨_, rfl⟩
        rw [hF, hG, hN] at fb
        rw [hF, hG, hN, hS, hD] at ls
        rw [hS, hD] at sb sw
        rw [hG] at fn
        obtain ⟨ls1, ls2⟩ := ls
        have sF := sqBd (x := F) (m := 2002001) (by omega) (by omega)
        have sG := sqBd (x := G) (m := 2002001) (by omega) (by omega)
        have sN := sqBd (x := N) (m := 2002001) (by omega) (by omega)
        have hNN : 1 ≤ N * N := by
          have := Int.mul_le_mul (show (1 : Int) ≤ N by omega) (show (1 : Int) ≤ N by omega) (by omega) (by omega)
          omega
        have c1 : decide (N < 1) = false := decide_eq_false (by omega)
        have c2 : decide (4000000 < N) = false := decide_eq_false (by omega)
        have c3 : decide (N < max (max (max F (-F)) G) (-G)) = false := decide_eq_false (by omega)
        have c4 : decide (D < 1) = false := decide_eq_false (by omega)
        have c5 : decide (S < 0) = false := decide_eq_false (by omega)
        have c6 : decide (D < S) = false := decide_eq_false (by omega)
        have c7 : decide (S = D) = decide (RE = 0) := decide_eq_decide.2 sw.2
        have c8 : ∀ x : Bool, (x == x) = true := fun x => by cases x <;> rfl
        have o1 := orE_noA (arr3E_ok hce (en := fun _ => [.int .i64 E]) fun i hi => by show 0 ≤ E ∧ E ≤ _; omega)
        have o2 := orE_noA (tot3E_ok hce (en := fun _ => [.int .i64 E]) fun i hi => by show 0 ≤ E ∧ E ≤ _; omega)
        have hen : IsInts (inN get 0 4) fun _ => [.int .i64 E] := isInts_fn _ (by omega)
        have hpen := hen.pu
        have hdb := fun i hi => d_bd (k := i) hok hpath hi
        have heb := fun i hi => e_bd (k := i) hok hpath hi
        have hT := fun i hi => tot_le (s := S) (d := D) hwb.1 (hdb i hi) (heb i hi) (by omega) (by omega) sw.1
        obtain ⟨A, hA⟩ : ∃ P : Nat → Int, ∀ i, arrLo E (dLo n get a b c d e f i) = P i := ⟨_, fun _ => rfl⟩
        obtain ⟨B, hB⟩ : ∃ P : Nat → Int, ∀ i, arrHi E (dHi n get a b c d e f i) = P i := ⟨_, fun _ => rfl⟩
        obtain ⟨X, hX⟩ : ∃ P : Nat → Int, ∀ i, agLo E (dLo n get a b c d e f i) 1 1 + agLo E (eLo n get a b c d e f i) S D = P i := ⟨_, fun _ => rfl⟩
        obtain ⟨Y, hY⟩ : ∃ P : Nat → Int, ∀ i, agHi E (dHi n get a b c d e f i) 1 1 + agHi E (eHi n get a b c d e f i) S D = P i := ⟨_, fun _ => rfl⟩
        simp only [hA, hB, hX, hY] at hT
        have htot : totG n get a b c d e f S D (fun _ => [.int .i64 E]) = fun i => [.int .i64 (X i), .int .i64 (Y i)] := funext fun i => by
          show [V.int .i64 (agLo E (dLo n get a b c d e f i) 1 1 + agLo E (eLo n get a b c d e f i) S D), V.int .i64 (agHi E (dHi n get a b c d e f i) 1 1 + agHi E (eHi n get a b c d e f i) S D)] = _
          rw [hX, hY]
        have hia : IsIv (inN get 0 4) fun i => [.int .i64 (A i), .int .i64 (B i)] := isIv_fn A B (by omega)
        have hit : IsIv (inN get 0 4) fun i => [.int .i64 (X i), .int .i64 (Y i)] := isIv_fn X Y (by omega)
        have hpa := hia.pu
        have hpt := hit.pu
        simp only [Proofs.Tryz.f12]
        rw [enter_mkT (Nat.le_of_ble_eq_true rfl)]
        simp (maxSteps := 4000000) only [go_sem, ↓op_move, ↓op_assign, ↓op_pick, ↓op_alloc, ↓op_box, ↓op_build, ↓op_buildSlice, ↓op_load, ↓op_store, ↓op_nilCheck, ↓op_bin, ↓op_un, ↓op_convert, ↓op_makeFunc, ↓op_makeSlice, ↓op_slice, ↓op_fieldAddr, ↓op_field, ↓op_indexAddr, ↓op_index, ↓op_extract, ↓op_lookup, ↓op_mapUpdate, ↓op_makeMap, ↓op_range, ↓op_next, ↓op_call, ↓op_builtin, ↓g_tt, ↓g_ff, ↓g_tf, ↓g_ft, ↓g_tnt, ↓g_tnf, ↓g_fnt, ↓g_fnf, ↓mkT_getD, hp, hsh, d0, d1, w16, iteT, hRE, hIM, hi1, hi2, n1, n2, n3, fe1, fe2, fe3, fe4, fe5, hF, hG, hN, hS, hD, fn, imp10_T, ay_17, ay_18, fac10, fac10d, fac10i, c1, c2, c3, c4, c5, c6, c7, c8, ls1, ls2, dec_self, hg0, hp0]
        have k0 : inK .i64 0 := inK_of (by decide) (by decide)
        refine ⟨hair, hair, inK_of (by omega) (by omega), inK_of (by omega) (by omega), inK_of (by omega) (by omega), inK_of (by omega) (by omega), k0, k0, k0, k0, inK_of (by omega) (by omega), inK_of (by omega) (by omega), inK_of (by omega) (by omega), inK_of (by omega) (by omega), inK_of (by omega) (by omega), inK_of (by omega) (by omega), inK_of (by omega) (by omega), ⟨⟨by omega, by omega⟩, by omega, by omega⟩, by omega, ?_⟩
        refine RestT.ents (Ents.nilArr (d := 24) (l := (14, 1000)) 1 (fun _ => []) rfl (by simp [updH]) rfl) ?_
        simp (maxSteps := 4000000) only [go_sem, ↓op_move, ↓op_assign, ↓op_pick, ↓op_alloc, ↓op_box, ↓op_build, ↓op_buildSlice, ↓op_load, ↓op_store, ↓op_nilCheck, ↓op_bin, ↓op_un, ↓op_convert, ↓op_makeFunc, ↓op_makeSlice, ↓op_slice, ↓op_fieldAddr, ↓op_field, ↓op_indexAddr, ↓op_index, ↓op_extract, ↓op_lookup, ↓op_mapUpdate, ↓op_makeMap, ↓op_range, ↓op_next, ↓op_call, ↓op_builtin, ↓g_tt, ↓g_ff, ↓g_tf, ↓g_ft, ↓g_tnt, ↓g_tnf, ↓g_fnt, ↓g_fnf, ↓mkT_getD]
        refine RestT.loopG (β := Nat) [(24, 24), (207, 216)] (fun i => [(24, .msl (14, 1000) 0 i), (207, .int .i64 i)]) (fun i => updH (fun _ => none) (14, 1000) (.arr i 1 fun _ => [.int .i64 E]))
          (fun _ i => i ≤ inN get 0 4) (fun i => inN get 0 4 - i) 0 (Nat.zero_le _) ?_ (HpLe.arr1 (updH_same _ _ _) rfl rfl fun j hj => absurd hj (Nat.not_lt_zero _)) ?_
        · simp (maxSteps := 4000000) only [go_sem, ↓op_move, ↓op_assign, ↓op_pick, ↓op_alloc, ↓op_box, ↓op_build, ↓op_buildSlice, ↓op_load, ↓op_store, ↓op_nilCheck, ↓op_bin, ↓op_un, ↓op_convert, ↓op_makeFunc, ↓op_makeSlice, ↓op_slice, ↓op_fieldAddr, ↓op_field, ↓op_indexAddr, ↓op_index, ↓op_extract, ↓op_lookup, ↓op_mapUpdate, ↓op_makeMap, ↓op_range, ↓op_next, ↓op_call, ↓op_builtin, ↓g_tt, ↓g_ff, ↓g_tf, ↓g_ft, ↓g_tnt, ↓g_tnf, ↓g_fnt, ↓g_fnf, ↓mkT_getD]
          try exact ⟨rfl, rfl⟩
        · intro ck i hck hi
          generalize hq0 : exC _ _ _ _ _ = gg
          by_cases hlt : i < inN get 0 4
          · have hd : decide ((i : Int) < (inN get 0 4 : Int)) = true := by simp; omega
            rw [← hq0]
            clear hq0
            simp (maxSteps := 4000000) only [go_sem, ↓op_move, ↓op_assign, ↓op_pick, ↓op_alloc, ↓op_box, ↓op_build, ↓op_buildSlice, ↓op_load, ↓op_store, ↓op_nilCheck, ↓op_bin, ↓op_un, ↓op_convert, ↓op_makeFunc, ↓op_makeSlice, ↓op_slice, ↓op_fieldAddr, ↓op_field, ↓op_indexAddr, ↓op_index, ↓op_extract, ↓op_lookup, ↓op_mapUpdate, ↓op_makeMap, ↓op_range, ↓op_next, ↓op_call, ↓op_builtin, ↓g_tt, ↓g_ff, ↓g_tf, ↓g_ft, ↓g_tnt, ↓g_tnf, ↓g_fnt, ↓g_fnf, ↓mkT_getD, hd, hp, w16, iteT, hE]
            exact ⟨inK_of (by omega) (by omega), inK_of (by omega) (by omega), ⟨by omega, by omega, row_okN rfl onesN1⟩, inK_of (by omega) (by omega), by omega, i + 1, hlt, by omega, ⟨rfl, by rw [Int.natCast_add]; rfl⟩, HpLe.arr1 (updH_same _ _ _) rfl rfl fun j hj => snoc (f := fun _ => [V.int .i64 E]) rfl rfl hj⟩
          · have hd : decide ((i : Int) < (inN get 0 4 : Int)) = false := by simp; omega
            have hin : i = inN get 0 4 := by omega
            rw [← hq0]
            clear hq0
            subst hin
            simp (maxSteps := 4000000) only [go_sem, ↓op_move, ↓op_assign, ↓op_pick, ↓op_alloc, ↓op_box, ↓op_build, ↓op_buildSlice, ↓op_load, ↓op_store, ↓op_nilCheck, ↓op_bin, ↓op_un, ↓op_convert, ↓op_makeFunc, ↓op_makeSlice, ↓op_slice, ↓op_fieldAddr, ↓op_field, ↓op_indexAddr, ↓op_index, ↓op_extract, ↓op_lookup, ↓op_mapUpdate, ↓op_makeMap, ↓op_range, ↓op_next, ↓op_call, ↓op_builtin, ↓g_tt, ↓g_ff, ↓g_tf, ↓g_ft, ↓g_tnt, ↓g_tnf, ↓g_fnt, ↓g_fnf, ↓mkT_getD, hd, hp]
            refine ⟨_, Ents.kill (d := 24) (l := (14, 1000)) (n := inN get 0 4) rfl rfl fun a b v _ hv => (ones1 v (List.mem_of_getElem? hv)).1, ?_⟩
            simp (maxSteps := 4000000) only [go_sem, ↓op_move, ↓op_assign, ↓op_pick, ↓op_alloc, ↓op_box, ↓op_build, ↓op_buildSlice, ↓op_load, ↓op_store, ↓op_nilCheck, ↓op_bin, ↓op_un, ↓op_convert, ↓op_makeFunc, ↓op_makeSlice, ↓op_slice, ↓op_fieldAddr, ↓op_field, ↓op_indexAddr, ↓op_index, ↓op_extract, ↓op_lookup, ↓op_mapUpdate, ↓op_makeMap, ↓op_range, ↓op_next, ↓op_call, ↓op_builtin, ↓g_tt, ↓g_ff, ↓g_tf, ↓g_ft, ↓g_tnt, ↓g_tnf, ↓g_fnt, ↓g_fnf, ↓mkT_getD, hd, hp, hpen, hpa, hpt, o1, o2, hi1, n1, n2, hS, hD, hA, hB, htot, dec_self]
            refine ⟨hown, ⟨hen, by omega⟩, ⟨hair, hen, by omega⟩, hown, ⟨hen, by omega⟩, ⟨hair, hen, by omega⟩, ?_⟩
            refine RestT.loopF (β := Nat) [(6, 6), (29, 30), (260, 300)] (fun k => [(260, .int .i64 k)]) (fun _ => fun _ => none) (fun k => k ≤ inN get 0 4) (fun k => inN get 0 4 - k) 0 (Nat.zero_le _) ?_ HpLe.none ?_
            · simp (maxSteps := 4000000) only [go_sem, ↓op_move, ↓op_assign, ↓op_pick, ↓op_alloc, ↓op_box, ↓op_build, ↓op_buildSlice, ↓op_load, ↓op_store, ↓op_nilCheck, ↓op_bin, ↓op_un, ↓op_convert, ↓op_makeFunc, ↓op_makeSlice, ↓op_slice, ↓op_fieldAddr, ↓op_field, ↓op_indexAddr, ↓op_index, ↓op_extract, ↓op_lookup, ↓op_mapUpdate, ↓op_makeMap, ↓op_range, ↓op_next, ↓op_call, ↓op_builtin, ↓g_tt, ↓g_ff, ↓g_tf, ↓g_ft, ↓g_tnt, ↓g_tnf, ↓g_fnt, ↓g_fnf, ↓mkT_getD]
              try exact rfl
            · intro ck2 k hck2 hk
              generalize hq0 : exC _ _ _ _ _ = gg
              by_cases hlt : k < inN get 0 4
              · have hd : decide ((k : Int) < (inN get 0 4 : Int)) = true := by simp; omega
                have ht := hT k hlt
                have e1 : decide (X k < A k) = false := decide_eq_false (by omega)
                have e2 : decide (Y k < B k) = false := decide_eq_false (by omega)
                have e3 : decide (Y k < X k) = false := decide_eq_false (by omega)
                have e4 : decide (2 * E < Y k) = false := decide_eq_false (by omega)
                rw [← hq0]
                clear hq0
                simp (maxSteps := 4000000) only [go_sem, ↓op_move, ↓op_assign, ↓op_pick, ↓op_alloc, ↓op_box, ↓op_build, ↓op_buildSlice, ↓op_load, ↓op_store, ↓op_nilCheck, ↓op_bin, ↓op_un, ↓op_convert, ↓op_makeFunc, ↓op_makeSlice, ↓op_slice, ↓op_fieldAddr, ↓op_field, ↓op_indexAddr, ↓op_index, ↓op_extract, ↓op_lookup, ↓op_mapUpdate, ↓op_makeMap, ↓op_range, ↓op_next, ↓op_call, ↓op_builtin, ↓g_tt, ↓g_ff, ↓g_tf, ↓g_ft, ↓g_tnt, ↓g_tnf, ↓g_fnt, ↓g_fnf, ↓mkT_getD, hd, hp, e1, e2, e3, e4]
                have hio : 0 ≤ (k : Int) ∧ (k : Int) < (inN get 0 4 : Int) := ⟨by omega, by omega⟩
                (repeat' first | exact hio | exact inK_of (by omega) (by omega) | exact ⟨by omega, k + 1, hlt, by omega, by rw [Int.natCast_add]; rfl, HpLe.none⟩ | refine ⟨?_, ?_⟩)
              · have hd : decide ((k : Int) < (inN get 0 4 : Int)) = false := by simp; omega
                rw [← hq0]
                clear hq0
                simp (maxSteps := 4000000) only [go_sem, ↓op_move, ↓op_assign, ↓op_pick, ↓op_alloc, ↓op_box, ↓op_build, ↓op_buildSlice, ↓op_load, ↓op_store, ↓op_nilCheck, ↓op_bin, ↓op_un, ↓op_convert, ↓op_makeFunc, ↓op_makeSlice, ↓op_slice, ↓op_fieldAddr, ↓op_field, ↓op_indexAddr, ↓op_index, ↓op_extract, ↓op_lookup, ↓op_mapUpdate, ↓op_makeMap, ↓op_range, ↓op_next, ↓op_call, ↓op_builtin, ↓g_tt, ↓g_ff, ↓g_tf, ↓g_ft, ↓g_tnt, ↓g_tnf, ↓g_fnt, ↓g_fnf, ↓mkT_getD, hd, hp]
                exact VEnt.refl _
      · have d1 : decide (pathE a b c d e f = 0) = false := decide_eq_false h1
        simp only [Proofs.Tryz.f12]
        rw [enter_mkT (Nat.le_of_ble_eq_true rfl)]
        simp (maxSteps := 4000000) only [go_sem, ↓op_move, ↓op_assign, ↓op_pick, ↓op_alloc, ↓op_box, ↓op_build, ↓op_buildSlice, ↓op_load, ↓op_store, ↓op_nilCheck, ↓op_bin, ↓op_un, ↓op_convert, ↓op_makeFunc, ↓op_makeSlice, ↓op_slice, ↓op_fieldAddr, ↓op_field, ↓op_indexAddr, ↓op_index, ↓op_extract, ↓op_lookup, ↓op_mapUpdate, ↓op_makeMap, ↓op_range, ↓op_next, ↓op_call, ↓op_builtin, ↓g_tt, ↓g_ff, ↓g_tf, ↓g_ft, ↓g_tnt, ↓g_tnf, ↓g_fnt, ↓g_fnf, ↓mkT_getD, hp, hsh, d0, d1]
        exact ⟨hair, hair, VEnt.refl _⟩
    · have d0 : decide (airE n get = 0) = false := decide_eq_false h0
      simp only [Proofs.Tryz.f12]
      rw [enter_mkT (Nat.le_of_ble_eq_true rfl)]
      simp (maxSteps := 4000000) only [go_sem, ↓op_move, ↓op_assign, ↓op_pick, ↓op_alloc, ↓op_box, ↓op_build, ↓op_buildSlice, ↓op_load, ↓op_store, ↓op_nilCheck, ↓op_bin, ↓op_un, ↓op_convert, ↓op_makeFunc, ↓op_makeSlice, ↓op_slice, ↓op_fieldAddr, ↓op_field, ↓op_indexAddr, ↓op_index, ↓op_extract, ↓op_lookup, ↓op_mapUpdate, ↓op_makeMap, ↓op_range, ↓op_next, ↓op_call, ↓op_builtin, ↓g_tt, ↓g_ff, ↓g_tf, ↓g_ft, ↓g_tnt, ↓g_tnf, ↓g_fnt, ↓g_fnf, ↓mkT_getD, hp, hsh, d0]
      exact ⟨hair, hair, VEnt.refl _⟩
end Go.Fly.Tryz
end
