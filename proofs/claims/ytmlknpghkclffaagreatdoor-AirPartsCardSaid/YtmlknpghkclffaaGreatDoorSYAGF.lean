/- Part of a proof: an evaluator of the model's code by abstract values, and plain laws for it. No conditions. -/
import Derived.Test.YtmlknpghkclffaaGreatDoorSYAGD
import Derived.Test.YtmlknpghkclffaaGreatDoorAP
set_option linter.unusedSimpArgs false
set_option linter.unusedVariables false
section
/- Where a ray turns, at any input. -/
set_option maxRecDepth 100000
set_option maxHeartbeats 2000000
namespace Go.Fly.Tryz
open Go

theorem gDiv_ok : Holds Proofs.Tryz.prog G0 126 divC := by
  refine Holds.of_exC D126 Proofs.Tryz.func126 rfl foll (by kernel_rfl) (tab []) (tab_ok trivial) G0_ok fun k0 rl args hpu hpre => ?_
  unfold divC at hpre ⊢
  split at hpre
  rotate_left
  · exact hpre.elim
  rename_i a b
  obtain ⟨h1, h2, h3, h4⟩ := hpre
  obtain ⟨a, rfl⟩ := Int.eq_ofNat_of_zero_le h1
  obtain ⟨b, rfl⟩ := Int.eq_ofNat_of_zero_le h3
  simp only [Proofs.Tryz.f126]
  rw [enter_mkT (Nat.le_of_ble_eq_true rfl)]
  simp (maxSteps := 4000000) only [go_sem, ↓op_move, ↓op_assign, ↓op_pick, ↓op_alloc, ↓op_box, ↓op_build, ↓op_buildSlice, ↓op_load, ↓op_store, ↓op_nilCheck, ↓op_bin, ↓op_un, ↓op_convert, ↓op_makeFunc, ↓op_makeSlice, ↓op_slice, ↓op_fieldAddr, ↓op_field, ↓op_indexAddr, ↓op_index, ↓op_extract, ↓op_lookup, ↓op_mapUpdate, ↓op_makeMap, ↓op_range, ↓op_next, ↓op_call, ↓op_builtin, ↓g_tt, ↓g_ff, ↓g_tf, ↓g_ft, ↓g_tnt, ↓g_tnf, ↓g_fnt, ↓g_fnf, ↓mkT_getD, Int.toNat_natCast]
  refine RestT.loopF (β := Nat × Nat) [(0, 1), (5, 10)] (fun s => [(0, .int .i64 s.1), (1, .int .i64 s.2)]) (fun _ => fun _ => none) (fun s => Nat.gcd s.1 s.2 = Nat.gcd a b ∧ s.1 ≤ 1000000000000 ∧ s.2 ≤ 1000000000000) (fun s => s.2) (a, b) ⟨rfl, by omega, by omega⟩ ?_ HpLe.none ?_
  · simp (maxSteps := 4000000) only [go_sem, ↓op_move, ↓op_assign, ↓op_pick, ↓op_alloc, ↓op_box, ↓op_build, ↓op_buildSlice, ↓op_load, ↓op_store, ↓op_nilCheck, ↓op_bin, ↓op_un, ↓op_convert, ↓op_makeFunc, ↓op_makeSlice, ↓op_slice, ↓op_fieldAddr, ↓op_field, ↓op_indexAddr, ↓op_index, ↓op_extract, ↓op_lookup, ↓op_mapUpdate, ↓op_makeMap, ↓op_range, ↓op_next, ↓op_call, ↓op_builtin, ↓g_tt, ↓g_ff, ↓g_tf, ↓g_ft, ↓g_tnt, ↓g_tnf, ↓g_fnt, ↓g_fnf, ↓mkT_getD]
    try exact rfl
  · intro ck s hck hI
    obtain ⟨x, y⟩ := s
    obtain ⟨hg, hx, hy⟩ := hI
    have hg : Nat.gcd x y = Nat.gcd a b := hg
    have hx : x ≤ 1000000000000 := hx
    have hy : y ≤ 1000000000000 := hy
    generalize hq0 : exC _ _ _ _ _ = gg
    by_cases hy0 : y = 0
    · have hd : decide ((y : Int) = 0) = true := by simp; omega
      rw [← hq0]
      clear hq0
      simp (maxSteps := 4000000) only [go_sem, ↓op_move, ↓op_assign, ↓op_pick, ↓op_alloc, ↓op_box, ↓op_build, ↓op_buildSlice, ↓op_load, ↓op_store, ↓op_nilCheck, ↓op_bin, ↓op_un, ↓op_convert, ↓op_makeFunc, ↓op_makeSlice, ↓op_slice, ↓op_fieldAddr, ↓op_field, ↓op_indexAddr, ↓op_index, ↓op_extract, ↓op_lookup, ↓op_mapUpdate, ↓op_makeMap, ↓op_range, ↓op_next, ↓op_call, ↓op_builtin, ↓g_tt, ↓g_ff, ↓g_tf, ↓g_ft, ↓g_tnt, ↓g_tnf, ↓g_fnt, ↓g_fnf, ↓mkT_getD, hd]
      subst hy0
      rw [← hg, Nat.gcd_zero_right]
      exact VEnt.refl _
    · have hd : decide ((y : Int) = 0) = false := by simp; omega
      have hm : ((x : Int).tmod (y : Int)) = ((x % y : Nat) : Int) := by
        rw [Int.tmod_eq_emod_of_nonneg (by omega)]; exact (Int.natCast_emod x y).symm
      rw [← hq0]
      clear hq0
      simp (maxSteps := 4000000) only [go_sem, ↓op_move, ↓op_assign, ↓op_pick, ↓op_alloc, ↓op_box, ↓op_build, ↓op_buildSlice, ↓op_load, ↓op_store, ↓op_nilCheck, ↓op_bin, ↓op_un, ↓op_convert, ↓op_makeFunc, ↓op_makeSlice, ↓op_slice, ↓op_fieldAddr, ↓op_field, ↓op_indexAddr, ↓op_index, ↓op_extract, ↓op_lookup, ↓op_mapUpdate, ↓op_makeMap, ↓op_range, ↓op_next, ↓op_call, ↓op_builtin, ↓g_tt, ↓g_ff, ↓g_tf, ↓g_ft, ↓g_tnt, ↓g_tnf, ↓g_fnt, ↓g_fnf, ↓mkT_getD, hd, hm]
      have hlt := Nat.mod_lt x (Nat.pos_of_ne_zero hy0)
      refine ⟨by omega, (y, x % y), ⟨by rw [← hg]; show Nat.gcd y (x % y) = Nat.gcd x y; rw [Nat.gcd_comm x y, Nat.gcd_rec y x, Nat.gcd_comm], hy, by show x % y ≤ _; omega⟩, hlt, ⟨rfl, rfl⟩, ?_⟩
      first | exact HpLe.refl _ | exact HpLe.none | trace_state

theorem gTurn_ok : Holds Proofs.Tryz.prog G0 58 turn3C := by
  refine Holds.of_exC D58 Proofs.Tryz.func58 rfl foll (by kernel_rfl) (tab [(27, airC), (83, firstC), (84, withinC), (118, lixC), (126, divC), (iceKey 5, iceC)]) (tab_ok ⟨aAir_ok, aFirst_ok, aWithin_ok, gIdx_ok, gDiv_ok, ice_holds, trivial⟩) G0_ok fun k0 rl args hpu hpre => ?_
  unfold turn3C at hpre ⊢
  split at hpre
  rotate_left
  · exact hpre.elim
  rename_i n sz get i num den
  obtain ⟨rfl, hair⟩ := hpre
  have hpu := hair.pu
  by_cases he : turn1 n get i num den = 0
  · have hz := firstL_zero.1 he
    have h1 : airE n get = 0 := hz _ (by simp)
    have hi := lixE_zero.1 (hz (lixE n i) (by simp))
    have hnum : 1 ≤ num ∧ num ≤ 100000 := rng_zero.1 (hz (rng num 1 100000) (by simp))
    have hden : 1 ≤ den ∧ den ≤ 100000 := rng_zero.1 (hz (rng den 1 100000) (by simp))
    have hok := airE_ok h1
    obtain ⟨i, rfl⟩ := Int.eq_ofNat_of_zero_le hi.1
    have hcnt := hok.cnt
    have hd : decide (firstL [airE n get, lixE n i, rng num 1 100000, rng den 1 100000] = 0) = true := decide_eq_true he
    by_cases hg : Nat.gcd num.toNat den.toNat = 1
    · have hd2 : decide (((Nat.gcd num.toNat den.toNat : Nat) : Int) = 1) = true := by simp [hg]
      simp only [Proofs.Tryz.f58]
      rw [enter_mkT (Nat.le_of_ble_eq_true rfl)]
      simp (maxSteps := 4000000) only [go_sem, ↓op_move, ↓op_assign, ↓op_pick, ↓op_alloc, ↓op_box, ↓op_build, ↓op_buildSlice, ↓op_load, ↓op_store, ↓op_nilCheck, ↓op_bin, ↓op_un, ↓op_convert, ↓op_makeFunc, ↓op_makeSlice, ↓op_slice, ↓op_fieldAddr, ↓op_field, ↓op_indexAddr, ↓op_index, ↓op_extract, ↓op_lookup, ↓op_mapUpdate, ↓op_makeMap, ↓op_range, ↓op_next, ↓op_call, ↓op_builtin, ↓g_tt, ↓g_ff, ↓g_tf, ↓g_ft, ↓g_tnt, ↓g_tnf, ↓g_fnt, ↓g_fnf, ↓mkT_getD, hpu, hd, hd2, Int.toNat_natCast]
      refine ⟨hair, ⟨by omega, by omega, by omega, by omega⟩, ⟨by omega, by omega, by omega⟩, ?_⟩
      refine RestT.loopF (β := Nat) [(6, 7), (9, 10), (37, 53)] (fun k => [(37, .int .i64 k)]) (fun _ => fun _ => none) (fun k => k ≤ n - i ∧ ∀ j, j < k → decide (den ≤ cell get (i + j) 1 * num) = false) (fun k => n - i - k) 0 ⟨Nat.zero_le _, fun j hj => absurd hj (Nat.not_lt_zero _)⟩ ?_ HpLe.none ?_
      · simp (maxSteps := 4000000) only [go_sem, ↓op_move, ↓op_assign, ↓op_pick, ↓op_alloc, ↓op_box, ↓op_build, ↓op_buildSlice, ↓op_load, ↓op_store, ↓op_nilCheck, ↓op_bin, ↓op_un, ↓op_convert, ↓op_makeFunc, ↓op_makeSlice, ↓op_slice, ↓op_fieldAddr, ↓op_field, ↓op_indexAddr, ↓op_index, ↓op_extract, ↓op_lookup, ↓op_mapUpdate, ↓op_makeMap, ↓op_range, ↓op_next, ↓op_call, ↓op_builtin, ↓g_tt, ↓g_ff, ↓g_tf, ↓g_ft, ↓g_tnt, ↓g_tnf, ↓g_fnt, ↓g_fnf, ↓mkT_getD]
        try exact rfl
      · intro ck k hck hI
        obtain ⟨hk, hno⟩ := hI
        generalize hq0 : exC _ _ _ _ _ = gg
        by_cases hlt : k < n - i
        · have hd3 : decide ((k : Int) < ((n - i : Nat) : Int)) = true := by simp; omega
          obtain ⟨hgk, hiv⟩ := hair.2 (i + k) (by omega)
          have hp2 := hiv.pu
          have w := airE_wind h1 (show i + k < n by omega)
          have hm := Int.mul_le_mul (show cell get (i + k) 1 ≤ 2000 by omega) hnum.2 (by omega) (by omega)
          have hm0 : 0 ≤ cell get (i + k) 1 * num := Int.mul_nonneg (by omega) (by omega)
          cases hh : decide (den ≤ cell get (i + k) 1 * num)
          · rw [← hq0]
            clear hq0
            simp (maxSteps := 4000000) only [go_sem, ↓op_move, ↓op_assign, ↓op_pick, ↓op_alloc, ↓op_box, ↓op_build, ↓op_buildSlice, ↓op_load, ↓op_store, ↓op_nilCheck, ↓op_bin, ↓op_un, ↓op_convert, ↓op_makeFunc, ↓op_makeSlice, ↓op_slice, ↓op_fieldAddr, ↓op_field, ↓op_indexAddr, ↓op_index, ↓op_extract, ↓op_lookup, ↓op_mapUpdate, ↓op_makeMap, ↓op_range, ↓op_next, ↓op_call, ↓op_builtin, ↓g_tt, ↓g_ff, ↓g_tf, ↓g_ft, ↓g_tnt, ↓g_tnf, ↓g_fnt, ↓g_fnf, ↓mkT_getD, hd3, hgk, hp2, hpu, hh]
            refine ⟨⟨by omega, by omega⟩, inK_of (by omega) (by omega), inK_of (by omega) (by omega), by omega, k + 1, ⟨by omega, fun j hj => ?_⟩, by omega, rfl, HpLe.none⟩
            rcases Nat.lt_or_ge j k with q | q
            · simpa using hno j q
            · obtain rfl : j = k := by omega
              simpa using hh
          · rw [← hq0]
            clear hq0
            have hI : turnI n get i num den = ((i + k : Nat) : Int) := idxF_hit hlt hh hno
            have hE : turnE n get i num den = 0 := by unfold turnE; rw [if_neg (by simp [he]), if_neg (by simp [hg]), Int.toNat_natCast, if_neg (by rw [hI]; omega)]
            simp (maxSteps := 4000000) only [go_sem, ↓op_move, ↓op_assign, ↓op_pick, ↓op_alloc, ↓op_box, ↓op_build, ↓op_buildSlice, ↓op_load, ↓op_store, ↓op_nilCheck, ↓op_bin, ↓op_un, ↓op_convert, ↓op_makeFunc, ↓op_makeSlice, ↓op_slice, ↓op_fieldAddr, ↓op_field, ↓op_indexAddr, ↓op_index, ↓op_extract, ↓op_lookup, ↓op_mapUpdate, ↓op_makeMap, ↓op_range, ↓op_next, ↓op_call, ↓op_builtin, ↓g_tt, ↓g_ff, ↓g_tf, ↓g_ft, ↓g_tnt, ↓g_tnf, ↓g_fnt, ↓g_fnf, ↓mkT_getD, hd3, hgk, hp2, hpu, hh]
            rw [orE_no hE, hI]
            exact ⟨⟨by omega, by omega⟩, inK_of (by omega) (by omega), inK_of (by omega) (by omega), VEnt.of_eq (by rw [Int.natCast_add])⟩
        · have hd3 : decide ((k : Int) < ((n - i : Nat) : Int)) = false := by simp; omega
          have hI : turnI n get i num den = -1 := idxF_none fun j hj => hno j (by omega)
          have hE : turnE n get i num den = 7 := by unfold turnE; rw [if_neg (by simp [he]), if_neg (by simp [hg]), Int.toNat_natCast, if_pos hI]
          rw [← hq0]
          clear hq0
          simp (maxSteps := 4000000) only [go_sem, ↓op_move, ↓op_assign, ↓op_pick, ↓op_alloc, ↓op_box, ↓op_build, ↓op_buildSlice, ↓op_load, ↓op_store, ↓op_nilCheck, ↓op_bin, ↓op_un, ↓op_convert, ↓op_makeFunc, ↓op_makeSlice, ↓op_slice, ↓op_fieldAddr, ↓op_field, ↓op_indexAddr, ↓op_index, ↓op_extract, ↓op_lookup, ↓op_mapUpdate, ↓op_makeMap, ↓op_range, ↓op_next, ↓op_call, ↓op_builtin, ↓g_tt, ↓g_ff, ↓g_tf, ↓g_ft, ↓g_tnt, ↓g_tnf, ↓g_fnt, ↓g_fnf, ↓mkT_getD, hd3]
          rw [orE_err (by rw [hE]; decide), hE]
          exact VEnt.refl _
    · have hd2 : decide (((Nat.gcd num.toNat den.toNat : Nat) : Int) = 1) = false := by simp; omega
      have hE : turnE n get i num den = 1 := by unfold turnE; rw [if_neg (by simp [he]), if_pos hg]
      simp only [Proofs.Tryz.f58]
      rw [enter_mkT (Nat.le_of_ble_eq_true rfl)]
      simp (maxSteps := 4000000) only [go_sem, ↓op_move, ↓op_assign, ↓op_pick, ↓op_alloc, ↓op_box, ↓op_build, ↓op_buildSlice, ↓op_load, ↓op_store, ↓op_nilCheck, ↓op_bin, ↓op_un, ↓op_convert, ↓op_makeFunc, ↓op_makeSlice, ↓op_slice, ↓op_fieldAddr, ↓op_field, ↓op_indexAddr, ↓op_index, ↓op_extract, ↓op_lookup, ↓op_mapUpdate, ↓op_makeMap, ↓op_range, ↓op_next, ↓op_call, ↓op_builtin, ↓g_tt, ↓g_ff, ↓g_tf, ↓g_ft, ↓g_tnt, ↓g_tnf, ↓g_fnt, ↓g_fnf, ↓mkT_getD, hpu, hd, hd2]
      rw [orE_err (by rw [hE]; decide), hE]
      exact ⟨hair, ⟨by omega, by omega, by omega, by omega⟩, VEnt.refl _⟩
  · have hd : decide (firstL [airE n get, lixE n i, rng num 1 100000, rng den 1 100000] = 0) = false := decide_eq_false he
    have hE : turnE n get i num den = turn1 n get i num den := by unfold turnE; rw [if_pos he]
    simp only [Proofs.Tryz.f58]
    rw [enter_mkT (Nat.le_of_ble_eq_true rfl)]
    simp (maxSteps := 4000000) only [go_sem, ↓op_move, ↓op_assign, ↓op_pick, ↓op_alloc, ↓op_box, ↓op_build, ↓op_buildSlice, ↓op_load, ↓op_store, ↓op_nilCheck, ↓op_bin, ↓op_un, ↓op_convert, ↓op_makeFunc, ↓op_makeSlice, ↓op_slice, ↓op_fieldAddr, ↓op_field, ↓op_indexAddr, ↓op_index, ↓op_extract, ↓op_lookup, ↓op_mapUpdate, ↓op_makeMap, ↓op_range, ↓op_next, ↓op_call, ↓op_builtin, ↓g_tt, ↓g_ff, ↓g_tf, ↓g_ft, ↓g_tnt, ↓g_tnf, ↓g_fnt, ↓g_fnf, ↓mkT_getD, hpu, hd]
    rw [hE, orE_err he]
    exact ⟨hair, VEnt.refl _⟩
end Go.Fly.Tryz
end
section
/- What arrives, at any input. -/
set_option maxRecDepth 100000
set_option maxHeartbeats 2000000
namespace Go.Fly.Tryz
open Go

theorem gArr_ok : Holds Proofs.Tryz.prog G0 41 arr3C := by
  refine Holds.of_exC D41 Proofs.Tryz.func41 rfl foll (by kernel_rfl) (tab [(97, straightC), (98, checkC), (99, steps2C), (105, passedC), (109, energiesC), (110, arrivedC), (iceKey 4, iceC)]) (tab_ok ⟨aStraight_ok, aCheck_ok, gSteps_ok, aPassed_ok, aEnergies_ok, aArr_ok, ice_holds, trivial⟩) G0_ok fun k0 rl args hpu hpre => ?_
  unfold arr3C at hpre ⊢
  split at hpre
  rotate_left
  · exact hpre.elim
  rename_i n sz get a b c d e f n' sz' en
  obtain ⟨rfl, hair, rfl, hen, hn'⟩ := hpre
  have hp := hair.pu
  have hpe := hen.pu
  by_cases hck : checkE n get a b c d e f = 0
  · obtain ⟨hae, hpath⟩ := checkE_zero.1 hck
    have hok := airE_ok hae
    obtain ⟨hg0, hiv0⟩ := hair.2 0 hok.cnt.1
    have hp0 := hiv0.pu
    by_cases hce : energiesE n' en (inN get 0 4) 10000000000000 = 0
    · have hz := firstL_zero.1 hce
      have hnn : n' = inN get 0 4 := by
        have := hz (err (!decide ((n' : Int) = (inN get 0 4 : Int))) 2) (by simp)
        rw [err_zero (by decide)] at this
        simp at this
        omega
      have hb := rngs_zero.1 (hz (rngs n' en 0 10000000000000) (by simp))
      have hsq := sqE_bd hpath
      have hst := fun i => stG_bd (n := n) (get := get) (flat := c) (sq := sqE a b c d e f) (y0 := 0) (y1 := 0) ⟨hsq.1, by omega⟩ (show min c f ≤ max c f by omega) (Int.le_refl 0) i
      have hpb := fun i hi => d_bd (k := i) hok hpath hi
      obtain ⟨⟨q1, q2, q3⟩, ⟨q4, q5, q6⟩, q7⟩ := id hpath
      have hb8 := hok.bands
      have hcn := hok.cnt
      have hE : arr3E n get a b c d e f n' en = 0 := by unfold arr3E; rw [if_neg (by simp [hck])]; exact hce
      subst hnn
      simp only [Proofs.Tryz.f41]
      rw [enter_mkT (Nat.le_of_ble_eq_true rfl)]
      simp (maxSteps := 4000000) only [go_sem, ↓op_move, ↓op_assign, ↓op_pick, ↓op_alloc, ↓op_box, ↓op_build, ↓op_buildSlice, ↓op_load, ↓op_store, ↓op_nilCheck, ↓op_bin, ↓op_un, ↓op_convert, ↓op_makeFunc, ↓op_makeSlice, ↓op_slice, ↓op_fieldAddr, ↓op_field, ↓op_indexAddr, ↓op_index, ↓op_extract, ↓op_lookup, ↓op_mapUpdate, ↓op_makeMap, ↓op_range, ↓op_next, ↓op_call, ↓op_builtin, ↓g_tt, ↓g_ff, ↓g_tf, ↓g_ft, ↓g_tnt, ↓g_tnf, ↓g_fnt, ↓g_fnf, ↓mkT_getD, hp, hpe, hg0, hp0, hck, hce]
      rw [orE_no hE]
      refine ⟨hair, by omega, ⟨hen, by omega⟩, hpath, ⟨hair, hok, ⟨hsq.1, by omega⟩, by omega, by omega, by omega, by omega, by omega⟩, ⟨hair, hok, isIv_fn _ _ hair.1, fun i hi => ?_⟩, ⟨isIv_fn _ _ (by omega), hen, by omega, fun i hi => ?_⟩, VEnt.of_eq rfl⟩
      · have := hst i
        omega
      · have h1 := hpb i hi
        have h2 := hb i hi
        unfold dLo dHi qLo qHi at h1
        omega
    · have hd : decide (energiesE n' en (inN get 0 4) 10000000000000 = 0) = false := decide_eq_false hce
      have hE : arr3E n get a b c d e f n' en = energiesE n' en (inN get 0 4) 10000000000000 := by unfold arr3E; rw [if_neg (by simp [hck])]
      have hcn := hok.cnt
      simp only [Proofs.Tryz.f41]
      rw [enter_mkT (Nat.le_of_ble_eq_true rfl)]
      simp (maxSteps := 4000000) only [go_sem, ↓op_move, ↓op_assign, ↓op_pick, ↓op_alloc, ↓op_box, ↓op_build, ↓op_buildSlice, ↓op_load, ↓op_store, ↓op_nilCheck, ↓op_bin, ↓op_un, ↓op_convert, ↓op_makeFunc, ↓op_makeSlice, ↓op_slice, ↓op_fieldAddr, ↓op_field, ↓op_indexAddr, ↓op_index, ↓op_extract, ↓op_lookup, ↓op_mapUpdate, ↓op_makeMap, ↓op_range, ↓op_next, ↓op_call, ↓op_builtin, ↓g_tt, ↓g_ff, ↓g_tf, ↓g_ft, ↓g_tnt, ↓g_tnf, ↓g_fnt, ↓g_fnf, ↓mkT_getD, hp, hpe, hg0, hp0, hck, hd]
      rw [hE, orE_err hce]
      exact ⟨hair, by omega, ⟨hen, hn'⟩, VEnt.refl _⟩
  · have hd : decide (checkE n get a b c d e f = 0) = false := decide_eq_false hck
    have hE : arr3E n get a b c d e f n' en = checkE n get a b c d e f := by unfold arr3E; rw [if_pos hck]
    simp only [Proofs.Tryz.f41]
    rw [enter_mkT (Nat.le_of_ble_eq_true rfl)]
    simp (maxSteps := 4000000) only [go_sem, ↓op_move, ↓op_assign, ↓op_pick, ↓op_alloc, ↓op_box, ↓op_build, ↓op_buildSlice, ↓op_load, ↓op_store, ↓op_nilCheck, ↓op_bin, ↓op_un, ↓op_convert, ↓op_makeFunc, ↓op_makeSlice, ↓op_slice, ↓op_fieldAddr, ↓op_field, ↓op_indexAddr, ↓op_index, ↓op_extract, ↓op_lookup, ↓op_mapUpdate, ↓op_makeMap, ↓op_range, ↓op_next, ↓op_call, ↓op_builtin, ↓g_tt, ↓g_ff, ↓g_tf, ↓g_ft, ↓g_tnt, ↓g_tnf, ↓g_fnt, ↓g_fnf, ↓mkT_getD, hp, hpe, hd]
    rw [hE, orE_err hck]
    exact ⟨hair, VEnt.refl _⟩
end Go.Fly.Tryz
end
