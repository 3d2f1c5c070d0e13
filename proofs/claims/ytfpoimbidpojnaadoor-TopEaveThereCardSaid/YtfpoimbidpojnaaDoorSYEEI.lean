/- The law: over walls and through the air, there and back. -/
import Derived.Test.YtfpoimbidpojnaaDoorSYEEH
import Derived.Test.YtfpoimbidpojnaaDoorAS
set_option linter.unusedSimpArgs false
set_option linter.unusedVariables false
set_option maxRecDepth 100000
set_option maxHeartbeats 8000000
namespace Go.Fly.Tryd
open Go

theorem vSame_ok : Holds Proofs.Tryd.prog G0 7 sameC := by
  refine Holds.of_exC D7 Proofs.Tryd.func7 rfl foll (by kernel_rfl) (tab []) (tab_ok trivial) G0_ok fun k0 rl args hpu hpre => ?_
  unfold sameC at hpre ⊢
  split at hpre
  rotate_left
  · exact hpre.elim
  rename_i n sz a n' sz' b
  obtain ⟨rfl, rfl, rfl, ha, hb, he⟩ := hpre
  have hp1 := ha.pu
  have hp2 := hb.pu
  have hnn := ha.1
  have hdd : decide ((n' : Int) = (n' : Int)) = true := decide_eq_true rfl
  simp only [Proofs.Tryd.f7]
  rw [enter_mkT (Nat.le_of_ble_eq_true rfl)]
  simp (maxSteps := 4000000) only [go_sem, ↓op_move, ↓op_assign, ↓op_pick, ↓op_alloc, ↓op_box, ↓op_build, ↓op_buildSlice, ↓op_load, ↓op_store, ↓op_nilCheck, ↓op_bin, ↓op_un, ↓op_convert, ↓op_makeFunc, ↓op_makeSlice, ↓op_slice, ↓op_fieldAddr, ↓op_field, ↓op_indexAddr, ↓op_index, ↓op_extract, ↓op_lookup, ↓op_mapUpdate, ↓op_makeMap, ↓op_range, ↓op_next, ↓op_call, ↓op_builtin, ↓g_tt, ↓g_ff, ↓g_tf, ↓g_ft, ↓g_tnt, ↓g_tnf, ↓g_fnt, ↓g_fnf, ↓mkT_getD, hp1, hp2, hdd]
  refine RestT.loopF (β := Nat) [(4, 5), (11, 25)] (fun i => [(5, .int .i64 i)]) (fun _ => fun _ => none) (fun i => i ≤ n') (fun i => n' - i) 0 (Nat.zero_le _) ?_ HpLe.none ?_
  · simp (maxSteps := 4000000) only [go_sem, ↓op_move, ↓op_assign, ↓op_pick, ↓op_alloc, ↓op_box, ↓op_build, ↓op_buildSlice, ↓op_load, ↓op_store, ↓op_nilCheck, ↓op_bin, ↓op_un, ↓op_convert, ↓op_makeFunc, ↓op_makeSlice, ↓op_slice, ↓op_fieldAddr, ↓op_field, ↓op_indexAddr, ↓op_index, ↓op_extract, ↓op_lookup, ↓op_mapUpdate, ↓op_makeMap, ↓op_range, ↓op_next, ↓op_call, ↓op_builtin, ↓g_tt, ↓g_ff, ↓g_tf, ↓g_ft, ↓g_tnt, ↓g_tnf, ↓g_fnt, ↓g_fnf, ↓mkT_getD]
    try exact rfl
  · intro ck i hck hi
    generalize hq0 : exC _ _ _ _ _ = gg
    by_cases hlt : i < n'
    · have hd : decide ((i : Int) < (n' : Int)) = true := by simp; omega
      have hga := ha.2 i hlt
      have hgb := hb.2 i hlt
      obtain ⟨h1, h2⟩ := he i hlt
      rw [h1, h2] at hga
      have q1 : decide (cell b i 0 = cell b i 0) = true := decide_eq_true rfl
      have q2 : decide (cell b i 1 = cell b i 1) = true := decide_eq_true rfl
      rw [← hq0]
      clear hq0
      simp (maxSteps := 4000000) only [go_sem, ↓op_move, ↓op_assign, ↓op_pick, ↓op_alloc, ↓op_box, ↓op_build, ↓op_buildSlice, ↓op_load, ↓op_store, ↓op_nilCheck, ↓op_bin, ↓op_un, ↓op_convert, ↓op_makeFunc, ↓op_makeSlice, ↓op_slice, ↓op_fieldAddr, ↓op_field, ↓op_indexAddr, ↓op_index, ↓op_extract, ↓op_lookup, ↓op_mapUpdate, ↓op_makeMap, ↓op_range, ↓op_next, ↓op_call, ↓op_builtin, ↓g_tt, ↓g_ff, ↓g_tf, ↓g_ft, ↓g_tnt, ↓g_tnf, ↓g_fnt, ↓g_fnf, ↓mkT_getD, hd, hga, hgb, hp1, hp2, q1, q2]
      exact ⟨⟨by omega, by omega⟩, ⟨by omega, by omega⟩, inK_of (by omega) (by omega), by omega, i + 1, hlt, by omega, rfl, HpLe.none⟩
    · have hd : decide ((i : Int) < (n' : Int)) = false := by simp; omega
      rw [← hq0]
      clear hq0
      simp (maxSteps := 4000000) only [go_sem, ↓op_move, ↓op_assign, ↓op_pick, ↓op_alloc, ↓op_box, ↓op_build, ↓op_buildSlice, ↓op_load, ↓op_store, ↓op_nilCheck, ↓op_bin, ↓op_un, ↓op_convert, ↓op_makeFunc, ↓op_makeSlice, ↓op_slice, ↓op_fieldAddr, ↓op_field, ↓op_indexAddr, ↓op_index, ↓op_extract, ↓op_lookup, ↓op_mapUpdate, ↓op_makeMap, ↓op_range, ↓op_next, ↓op_call, ↓op_builtin, ↓g_tt, ↓g_ff, ↓g_tf, ↓g_ft, ↓g_tnt, ↓g_tnf, ↓g_fnt, ↓g_fnf, ↓mkT_getD, hd, hp1, hp2]
      exact VEnt.of_eq rfl

theorem vThere_ok : Holds Proofs.Tryd.prog G0 3 thereC := by
  refine Holds.of_exC D3 Proofs.Tryd.func3 rfl foll (by kernel_rfl) (tab [(4, trueC), (5, townFitsC), (6, eavesC), (7, sameC), (8, reversed2C), (9, airCopyC), (10, bent2C), (iceKey 2, iceC), (iceKey 151, iceC), (ownKey 145, iceC)]) (tab_ok ⟨vWay_ok, vFits_ok, vArr_ok, vSame_ok, aRev_ok, vAir_ok, aBent2_ok, ice_holds, ice_holds, ice_holds, trivial⟩) G0_ok fun k0 rl args hpu hpre => ?_
  unfold thereC at hpre ⊢
  split at hpre
  rotate_left
  · exact hpre.elim
  rename_i nw sw gw nt st gt na sa ga a b c d e f en m
  obtain ⟨⟨rfl, rfl, rfl⟩, hw, ht, ha, hm0, hm1⟩ := hpre
  have hp1 := hw.pu
  have hp2 := ht.pu
  have hp3 := ha.pu
  cases hfit : fitsT nw gw nt gt na ga a b c d e f en
  · simp only [Proofs.Tryd.f3]
    rw [enter_mkT (Nat.le_of_ble_eq_true rfl)]
    simp (maxSteps := 4000000) only [go_sem, ↓op_move, ↓op_assign, ↓op_pick, ↓op_alloc, ↓op_box, ↓op_build, ↓op_buildSlice, ↓op_load, ↓op_store, ↓op_nilCheck, ↓op_bin, ↓op_un, ↓op_convert, ↓op_makeFunc, ↓op_makeSlice, ↓op_slice, ↓op_fieldAddr, ↓op_field, ↓op_indexAddr, ↓op_index, ↓op_extract, ↓op_lookup, ↓op_mapUpdate, ↓op_makeMap, ↓op_range, ↓op_next, ↓op_call, ↓op_builtin, ↓g_tt, ↓g_ff, ↓g_tf, ↓g_ft, ↓g_tnt, ↓g_tnf, ↓g_fnt, ↓g_fnf, ↓mkT_getD, hp1, hp2, hp3, hfit]
    exact ⟨⟨hw, ht, ha⟩, VEnt.of_eq rfl⟩
  · obtain ⟨hn4, hwo, htab, hae, ⟨hs, hr, hne⟩, hen⟩ := fitsT_use hfit
    have hok := airE_ok hae
    have hb8 := hok.bands
    have hac := hok.cnt
    have hsame := hok.same
    have hpath : PathOk a b c d e f := by
      obtain ⟨⟨s1, s2⟩, ⟨s3, s4⟩, s5, s6⟩ := hs
      obtain ⟨⟨r1, r2⟩, ⟨r3, r4⟩, r5, r6⟩ := hr
      exact ⟨⟨by omega, by omega, by omega⟩, ⟨by omega, by omega, by omega⟩, hne⟩
    have hpath2 := hpath.back
    have hspots : SpotsOk a b c d e f := ⟨hs, hr, hne⟩
    have hspots2 : SpotsOk d e f a b c := ⟨hr, hs, fun q => hne ⟨q.1.symm, q.2.1.symm, q.2.2.symm⟩⟩
    have htown : TownOk nt gt na ga en := ⟨ht, htab, ha, hae, hen⟩
    have hw0 : IsWalls 0 (fun _ => []) := ⟨by decide, fun i hi => absurd hi (Nat.not_lt_zero _)⟩
    have hwo0 : WallsOk 0 (fun _ => []) := ⟨by decide, fun i hi => absurd hi (Nat.not_lt_zero _), fun i k hi => absurd hi (Nat.not_lt_zero _)⟩
    obtain ⟨TL, hTL⟩ : ∃ T : Nat → Int, ∀ k, eavLo nw gw nt gt na ga a b c d e f en k = T k := ⟨_, fun _ => rfl⟩
    obtain ⟨TH, hTH⟩ : ∃ T : Nat → Int, ∀ k, eavHi nw gw nt gt na ga a b c d e f en k = T k := ⟨_, fun _ => rfl⟩
    have hBL : ∀ k, eavLo nw gw nt gt na ga d e f a b c en k = TL k := fun k => by rw [eavLo_sym]; exact hTL k
    have hBH : ∀ k, eavHi nw gw nt gt na ga d e f a b c en k = TH k := fun k => by rw [eavHi_sym]; exact hTH k
    obtain ⟨FL, hFL⟩ : ∃ T : Nat → Int, ∀ k, eavLo 0 (fun _ => []) nt gt na ga a b c d e f en k = T k := ⟨_, fun _ => rfl⟩
    obtain ⟨FH, hFH⟩ : ∃ T : Nat → Int, ∀ k, eavHi 0 (fun _ => []) nt gt na ga a b c d e f en k = T k := ⟨_, fun _ => rfl⟩
    have hbd : ∀ k, k < inN ga 0 4 → 0 ≤ TL k ∧ TL k ≤ TH k ∧ TH k ≤ en := fun k hk => by rw [← hTL, ← hTH]; exact eav_bd htab hae hpath hen.1 hk
    have hfr : ∀ k, k < inN ga 0 4 → TL k ≤ FL k ∧ TH k ≤ FH k := fun k hk => by
      rw [← hTL, ← hTH, ← hFL, ← hFH]
      exact eav_less htab hae hpath hen.1 hk (by rw [sum_none]; exact sumI_nn fun i _ => wDepth_nn ..)
    simp only [Proofs.Tryd.f3]
    rw [enter_mkT (Nat.le_of_ble_eq_true rfl)]
    simp (maxSteps := 4000000) only [go_sem, ↓op_move, ↓op_assign, ↓op_pick, ↓op_alloc, ↓op_box, ↓op_build, ↓op_buildSlice, ↓op_load, ↓op_store, ↓op_nilCheck, ↓op_bin, ↓op_un, ↓op_convert, ↓op_makeFunc, ↓op_makeSlice, ↓op_slice, ↓op_fieldAddr, ↓op_field, ↓op_indexAddr, ↓op_index, ↓op_extract, ↓op_lookup, ↓op_mapUpdate, ↓op_makeMap, ↓op_range, ↓op_next, ↓op_call, ↓op_builtin, ↓g_tt, ↓g_ff, ↓g_tf, ↓g_ft, ↓g_tnt, ↓g_tnf, ↓g_fnt, ↓g_fnf, ↓mkT_getD, hp1, hp2, hp3, hfit, hTL, hTH, hBL, hBH, hFL, hFH]
    have hne8 : inN ga 0 4 ≤ 9223372036854775807 := by omega
    refine ⟨⟨hw, ht, ha⟩, ⟨⟨_, _, rfl⟩, hw, hwo, htown, hspots⟩, ⟨⟨_, _, rfl⟩, hw, hwo, htown, hspots2⟩, ⟨hw0, hwo0, htown, hspots⟩, isIv_fn _ _ hne8, ?_⟩
    refine RestT.loopF (β := Nat) [(4, 4), (11, 12), (81, 123)] (fun i => [(81, .int .i64 i)]) (fun _ => fun _ => none) (fun i => i ≤ inN ga 0 4) (fun i => inN ga 0 4 - i) 0 (Nat.zero_le _) ?_ HpLe.none ?_
    · simp (maxSteps := 4000000) only [go_sem, ↓op_move, ↓op_assign, ↓op_pick, ↓op_alloc, ↓op_box, ↓op_build, ↓op_buildSlice, ↓op_load, ↓op_store, ↓op_nilCheck, ↓op_bin, ↓op_un, ↓op_convert, ↓op_makeFunc, ↓op_makeSlice, ↓op_slice, ↓op_fieldAddr, ↓op_field, ↓op_indexAddr, ↓op_index, ↓op_extract, ↓op_lookup, ↓op_mapUpdate, ↓op_makeMap, ↓op_range, ↓op_next, ↓op_call, ↓op_builtin, ↓g_tt, ↓g_ff, ↓g_tf, ↓g_ft, ↓g_tnt, ↓g_tnf, ↓g_fnt, ↓g_fnf, ↓mkT_getD]
      try exact rfl
    · intro ck i hck hi
      generalize hq0 : exC _ _ _ _ _ = gg
      by_cases hlt : i < inN ga 0 4
      · have hd : decide ((i : Int) < (inN ga 0 4 : Int)) = true := by simp; omega
        have h1 := hbd i hlt
        have h2 := hfr i hlt
        have q1 : decide (TL i < 0) = false := decide_eq_false (by omega)
        have q2 : decide (TH i < TL i) = false := decide_eq_false (by omega)
        have q3 : decide (en < TH i) = false := decide_eq_false (by omega)
        have q4 : decide (FL i < TL i) = false := decide_eq_false (by omega)
        have q5 : decide (FH i < TH i) = false := decide_eq_false (by omega)
        rw [← hq0]
        clear hq0
        simp (maxSteps := 4000000) only [go_sem, ↓op_move, ↓op_assign, ↓op_pick, ↓op_alloc, ↓op_box, ↓op_build, ↓op_buildSlice, ↓op_load, ↓op_store, ↓op_nilCheck, ↓op_bin, ↓op_un, ↓op_convert, ↓op_makeFunc, ↓op_makeSlice, ↓op_slice, ↓op_fieldAddr, ↓op_field, ↓op_indexAddr, ↓op_index, ↓op_extract, ↓op_lookup, ↓op_mapUpdate, ↓op_makeMap, ↓op_range, ↓op_next, ↓op_call, ↓op_builtin, ↓g_tt, ↓g_ff, ↓g_tf, ↓g_ft, ↓g_tnt, ↓g_tnf, ↓g_fnt, ↓g_fnf, ↓mkT_getD, hd, hp1, hp2, hp3, q1, q2, q3, q4, q5]
        exact ⟨⟨by omega, by omega⟩, ⟨by omega, by omega⟩, ⟨by omega, by omega⟩, inK_of (by omega) (by omega), by omega, i + 1, hlt, by omega, rfl, HpLe.none⟩
      · have hd : decide ((i : Int) < (inN ga 0 4 : Int)) = false := by simp; omega
        have hp4 := (isAir_rev ha).pu
        have hbr : bentE na (revG ga) d e f a b c = bentE na ga a b c d e f := bent_rev ..
        have hbd0 : decide (bentE na ga a b c d e f = bentE na ga a b c d e f) = true := decide_eq_true rfl
        have hcp : IsAir na ga ∧ na ≤ 8 ∧ ∀ (i : Nat), i < na → inN ga i 4 ≤ 8 := ⟨ha, hac.2, fun i hi => by have := hsame i hi; omega⟩
        by_cases hz : nw = 0
        · subst hz
          have hd2 : decide ((0 : Int) < ((0 : Nat) : Int)) = false := rfl
          rw [← hq0]
          clear hq0
          simp (maxSteps := 4000000) only [go_sem, ↓op_move, ↓op_assign, ↓op_pick, ↓op_alloc, ↓op_box, ↓op_build, ↓op_buildSlice, ↓op_load, ↓op_store, ↓op_nilCheck, ↓op_bin, ↓op_un, ↓op_convert, ↓op_makeFunc, ↓op_makeSlice, ↓op_slice, ↓op_fieldAddr, ↓op_field, ↓op_indexAddr, ↓op_index, ↓op_extract, ↓op_lookup, ↓op_mapUpdate, ↓op_makeMap, ↓op_range, ↓op_next, ↓op_call, ↓op_builtin, ↓g_tt, ↓g_ff, ↓g_tf, ↓g_ft, ↓g_tnt, ↓g_tnf, ↓g_fnt, ↓g_fnf, ↓mkT_getD, hd, hd2, hp1, hp2, hp3, hp4, hbr, hbd0]
          exact ⟨hcp, ⟨ha, hae⟩, hcp, ⟨ha, hae, hpath⟩, ⟨isAir_rev ha, airE_rev hae, hpath2⟩, VEnt.of_eq rfl⟩
        · have hsg : (IntKind.signed .i64 = true) = True := eq_true rfl
          have h864 : ((8 : Nat) < 64) = True := eq_true (by decide)
          have hd2 : decide ((0 : Int) < (nw : Int)) = true := decide_eq_true (by omega)
          obtain ⟨j, hj⟩ : ∃ j : Nat, m.tmod nw = j := ⟨(m.tmod nw).toNat, by rw [Int.tmod_eq_emod_of_nonneg hm0]; have := Int.emod_nonneg m (show (nw : Int) ≠ 0 by omega); omega⟩
          have hjn : j < nw := by
            have := Int.emod_lt_of_pos m (show (0 : Int) < nw by omega)
            rw [Int.tmod_eq_emod_of_nonneg hm0] at hj
            omega
          have hlen : 0 + (j - 0) + (nw - ((j : Int) + 1).toNat) = nw - 1 := by omega
          have hfun : (fun i => if i < 0 + (j - 0) then if i < 0 then rowAt [] 7 i else gw (0 + (i - 0)) else gw (((j : Int) + 1).toNat + (i - (0 + (j - 0))))) = dropG gw j := by
            funext k
            have e1 : 0 + (j - 0) = j := by omega
            have e2 : ((j : Int) + 1).toNat = j + 1 := by omega
            have e3 : 0 + (k - 0) = k := by omega
            rw [e1, e2, if_neg (Nat.not_lt_zero k), e3]
            rfl
          have hw2 := isWalls_drop hjn hw
          have hwo2 := wallsOk_drop hjn hwo
          have hp5 := hw2.pu
          obtain ⟨LL, hLL⟩ : ∃ T : Nat → Int, ∀ k, eavLo (nw - 1) (dropG gw j) nt gt na ga a b c d e f en k = T k := ⟨_, fun _ => rfl⟩
          obtain ⟨LH, hLH⟩ : ∃ T : Nat → Int, ∀ k, eavHi (nw - 1) (dropG gw j) nt gt na ga a b c d e f en k = T k := ⟨_, fun _ => rfl⟩
          have hls : ∀ k, k < inN ga 0 4 → TL k ≤ LL k ∧ TH k ≤ LH k := fun k hk => by
            rw [← hTL, ← hTH, ← hLL, ← hLH]
            refine eav_less htab hae hpath hen.1 hk ?_
            have e : wDepth (dropG gw j) a b c d e f = fun i => if i < j then wDepth gw a b c d e f i else wDepth gw a b c d e f (i + 1) := funext fun i => wDepth_drop ..
            rw [e]
            exact sum_drop hjn (wDepth_nn ..)
          have hrow : ∀ i, i < nw → ∀ v ∈ gw i, Pu v ∧ oneC v = true := fun i hi v hv => by
            rw [(hw.2 i hi).1] at hv
            exact ones7 v hv
          rw [← hq0]
          clear hq0
          simp (maxSteps := 4000000) only [go_sem, ↓op_move, ↓op_assign, ↓op_pick, ↓op_alloc, ↓op_box, ↓op_build, ↓op_buildSlice, ↓op_load, ↓op_store, ↓op_nilCheck, ↓op_bin, ↓op_un, ↓op_convert, ↓op_makeFunc, ↓op_makeSlice, ↓op_slice, ↓op_fieldAddr, ↓op_field, ↓op_indexAddr, ↓op_index, ↓op_extract, ↓op_lookup, ↓op_mapUpdate, ↓op_makeMap, ↓op_range, ↓op_next, ↓op_call, ↓op_builtin, ↓g_tt, ↓g_ff, ↓g_tf, ↓g_ft, ↓g_tnt, ↓g_tnf, ↓g_fnt, ↓g_fnf, ↓mkT_getD, hd, hd2, hj, hp1, hp2, hp3, hp4, hp5, hbr, hbd0, hsg, h864, hlen, hfun, hLL, hLH]
          refine ⟨inK_of (by omega) (by omega), by omega, ⟨by omega, by omega⟩, ⟨by omega, by omega, fun i hi v hv => ⟨.inl (hrow _ (by omega) v hv).1, (hrow _ (by omega) v hv).2⟩⟩, inK_of (by omega) (by omega), ⟨by omega, by omega, by omega⟩, ⟨⟨by omega, by omega, fun i hi v hv => hrow _ (by omega) v hv⟩, fun i hi v hv => pu_sl.1 hp5 i hi v hv⟩, ⟨⟨_, _, rfl⟩, hw2, hwo2, htown, hspots⟩, ?_⟩
          refine RestT.loopF (β := Nat) [(4, 4), (16, 17), (159, 182)] (fun i => [(159, .int .i64 i)]) (fun _ => fun _ => none) (fun i => i ≤ inN ga 0 4) (fun i => inN ga 0 4 - i) 0 (Nat.zero_le _) ?_ HpLe.none ?_
          · simp (maxSteps := 4000000) only [go_sem, ↓op_move, ↓op_assign, ↓op_pick, ↓op_alloc, ↓op_box, ↓op_build, ↓op_buildSlice, ↓op_load, ↓op_store, ↓op_nilCheck, ↓op_bin, ↓op_un, ↓op_convert, ↓op_makeFunc, ↓op_makeSlice, ↓op_slice, ↓op_fieldAddr, ↓op_field, ↓op_indexAddr, ↓op_index, ↓op_extract, ↓op_lookup, ↓op_mapUpdate, ↓op_makeMap, ↓op_range, ↓op_next, ↓op_call, ↓op_builtin, ↓g_tt, ↓g_ff, ↓g_tf, ↓g_ft, ↓g_tnt, ↓g_tnf, ↓g_fnt, ↓g_fnf, ↓mkT_getD]
            try exact rfl
          · intro ck2 i2 hck2 hi2
            generalize hq0 : exC _ _ _ _ _ = gg
            by_cases hlt2 : i2 < inN ga 0 4
            · have hd3 : decide ((i2 : Int) < (inN ga 0 4 : Int)) = true := by simp; omega
              have h1 := hls i2 hlt2
              have q1 : decide (LL i2 < TL i2) = false := decide_eq_false (by omega)
              have q2 : decide (LH i2 < TH i2) = false := decide_eq_false (by omega)
              rw [← hq0]
              clear hq0
              simp (maxSteps := 4000000) only [go_sem, ↓op_move, ↓op_assign, ↓op_pick, ↓op_alloc, ↓op_box, ↓op_build, ↓op_buildSlice, ↓op_load, ↓op_store, ↓op_nilCheck, ↓op_bin, ↓op_un, ↓op_convert, ↓op_makeFunc, ↓op_makeSlice, ↓op_slice, ↓op_fieldAddr, ↓op_field, ↓op_indexAddr, ↓op_index, ↓op_extract, ↓op_lookup, ↓op_mapUpdate, ↓op_makeMap, ↓op_range, ↓op_next, ↓op_call, ↓op_builtin, ↓g_tt, ↓g_ff, ↓g_tf, ↓g_ft, ↓g_tnt, ↓g_tnf, ↓g_fnt, ↓g_fnf, ↓mkT_getD, hd3, hp1, hp2, hp3, q1, q2]
              exact ⟨⟨by omega, by omega⟩, ⟨by omega, by omega⟩, ⟨by omega, by omega⟩, inK_of (by omega) (by omega), by omega, i2 + 1, hlt2, by omega, rfl, HpLe.none⟩
            · have hd3 : decide ((i2 : Int) < (inN ga 0 4 : Int)) = false := by simp; omega
              rw [← hq0]
              clear hq0
              simp (maxSteps := 4000000) only [go_sem, ↓op_move, ↓op_assign, ↓op_pick, ↓op_alloc, ↓op_box, ↓op_build, ↓op_buildSlice, ↓op_load, ↓op_store, ↓op_nilCheck, ↓op_bin, ↓op_un, ↓op_convert, ↓op_makeFunc, ↓op_makeSlice, ↓op_slice, ↓op_fieldAddr, ↓op_field, ↓op_indexAddr, ↓op_index, ↓op_extract, ↓op_lookup, ↓op_mapUpdate, ↓op_makeMap, ↓op_range, ↓op_next, ↓op_call, ↓op_builtin, ↓g_tt, ↓g_ff, ↓g_tf, ↓g_ft, ↓g_tnt, ↓g_tnf, ↓g_fnt, ↓g_fnf, ↓mkT_getD, hd3, hp1, hp2, hp3, hp4, hbr, hbd0]
              exact ⟨hcp, ⟨ha, hae⟩, hcp, ⟨ha, hae, hpath⟩, ⟨isAir_rev ha, airE_rev hae, hpath2⟩, VEnt.of_eq rfl⟩
end Go.Fly.Tryd
