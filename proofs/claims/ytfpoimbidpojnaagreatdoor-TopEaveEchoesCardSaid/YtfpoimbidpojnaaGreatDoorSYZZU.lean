/- Part of a proof: an evaluator of the model's code by abstract values, and plain laws for it. No conditions. -/
import Derived.Test.YtfpoimbidpojnaaGreatDoorSYZZD
import Derived.Test.YtfpoimbidpojnaaGreatDoorSYZEI
import Derived.Test.YtfpoimbidpojnaaGreatDoorSYZCE
import Derived.Test.YtfpoimbidpojnaaGreatDoorAU
import Derived.Test.YtfpoimbidpojnaaGreatDoorAX
import Derived.Test.YtfpoimbidpojnaaGreatDoorRows
import Derived.ProofKit
import Derived.LaidMore
import Derived.Stop.Joined
set_option linter.unusedSimpArgs false
set_option linter.unusedVariables false
section
/- The law TopEaveEchoes. -/
set_option maxRecDepth 100000
set_option maxHeartbeats 8000000
namespace Go.Fly.Tryz
open Go

theorem spot_path {X Y c d e f : Int} (hX : (-3000 ≤ X ∧ X ≤ 3000) ∧ -3000 ≤ Y ∧ Y ≤ 3000) (hc : 0 ≤ c ∧ c ≤ 1000) (hr : SpotOk d e f) (hne : 0 < apartE X Y c d e f) : PathOk X Y c d e f := by
  obtain ⟨⟨r1, r2⟩, ⟨r3, r4⟩, r5, r6⟩ := hr
  refine ⟨⟨by omega, by omega, by omega⟩, ⟨by omega, by omega, by omega⟩, ?_⟩
  rintro ⟨rfl, rfl, rfl⟩
  unfold apartE at hne
  simp at hne
theorem apart_pos {a b c d e f : Int} (h : ¬ (a = d ∧ b = e ∧ c = f)) : 0 < apartE a b c d e f := by
  unfold apartE
  have sq : ∀ x : Int, 0 ≤ x * x := fun x => by rcases Int.le_total 0 x with q | q
                                                · exact Int.mul_nonneg q q
                                                · have := Int.mul_nonneg (show 0 ≤ -x by omega) (show 0 ≤ -x by omega); rwa [Int.neg_mul_neg] at this
  have sp : ∀ x : Int, x ≠ 0 → 0 < x * x := fun x hx => by
    rcases Int.lt_trichotomy x 0 with q | q | q
    · exact Int.mul_pos_of_neg_of_neg q q
    · exact absurd q hx
    · exact Int.mul_pos q q
  have s1 := sq (a - d)
  have s2 := sq (b - e)
  have s3 := sq (c - f)
  by_cases h1 : a = d
  · by_cases h2 : b = e
    · have := sp (c - f) (fun q => h ⟨h1, h2, by omega⟩)
      omega
    · have := sp (b - e) (by omega)
      omega
  · have := sp (a - d) (by omega)
    omega

theorem vEch_ok : Holds Proofs.Tryz.prog G0 3 townLawC := by
  refine Holds.of_exC D3 Proofs.Tryz.func3 rfl foll (by kernel_rfl) (tab [(4, trueC), (5, townFitsC), (6, airLen2C), (7, length2C), (8, square4C), (9, mirrorsC), (10, walls2C), (11, passed2C), (12, airCopyC), (13, sameC), (iceKey 1, iceC)]) (tab_ok ⟨vWay_ok, vFits_ok, aLen2_ok, tLength2_ok, rSq4_ok, tMirs_ok, vWalls_ok, aPassed2_ok, vAir_ok, vSame_ok, ice_holds, trivial⟩) G0_ok fun k0 rl args hpu hpre => ?_
  unfold townLawC at hpre ⊢
  split at hpre
  rotate_left
  · exact hpre.elim
  rename_i nw sw gw nt st gt na sa ga a b c d e f en
  obtain ⟨⟨rfl, rfl, rfl⟩, hw, ht, ha⟩ := hpre
  have hp1 := hw.pu
  have hp2 := ht.pu
  have hp3 := ha.pu
  cases hfit : fitsT nw gw nt gt na ga a b c d e f en
  · simp only [Proofs.Tryz.f3]
    rw [enter_mkT (Nat.le_of_ble_eq_true rfl)]
    simp (maxSteps := 4000000) only [go_sem, ↓op_move, ↓op_assign, ↓op_pick, ↓op_alloc, ↓op_box, ↓op_build, ↓op_buildSlice, ↓op_load, ↓op_store, ↓op_nilCheck, ↓op_bin, ↓op_un, ↓op_convert, ↓op_makeFunc, ↓op_makeSlice, ↓op_slice, ↓op_fieldAddr, ↓op_field, ↓op_indexAddr, ↓op_index, ↓op_extract, ↓op_lookup, ↓op_mapUpdate, ↓op_makeMap, ↓op_range, ↓op_next, ↓op_call, ↓op_builtin, ↓g_tt, ↓g_ff, ↓g_tf, ↓g_ft, ↓g_tnt, ↓g_tnf, ↓g_fnt, ↓g_fnf, ↓mkT_getD, hp1, hp2, hp3, hfit]
    exact ⟨⟨hw, ht, ha⟩, VEnt.of_eq rfl⟩
  · obtain ⟨hn4, hwo, htab, hae, ⟨hs, hr, hne⟩, hen⟩ := fitsT_use hfit
    have hok := airE_ok hae
    have hb8 := hok.bands
    have hac := hok.cnt
    have hsame := hok.same
    have hpath : PathOk a b c d e f := by
      obtain ⟨⟨s1, s2⟩, ⟨s3, s4⟩, s5, s6⟩ := hs
      obtain ⟨⟨r1, r2⟩, ⟨r3, r4⟩, r5, r6⟩ := hr
      exact ⟨⟨by omega, by omega, by omega⟩, ⟨by omega, by omega, by omega⟩, hne⟩
    have hcp : IsAir na ga ∧ na ≤ 8 ∧ ∀ (i : Nat), i < na → inN ga i 4 ≤ 8 := ⟨ha, hac.2, fun i hi => by have := hsame i hi; omega⟩
    obtain ⟨hg0, hiv0⟩ := ha.2 0 hac.1
    have hp0 := hiv0.pu
    have hab := (apart_bd hs hr).2.2.2
    have hap := apart_pos hne
    obtain ⟨S0, hS0⟩ : ∃ S, apartE a b c d e f = S := ⟨_, rfl⟩
    have hsq0 : sqE a b c d e f = S0 := by rw [sq_apart, hS0]
    obtain ⟨hl1, hl2⟩ := len_root (s := S0) (by omega)
    obtain ⟨l1, hl3⟩ : ∃ l, lenLo S0 = l := ⟨_, rfl⟩
    obtain ⟨l2, hl4⟩ : ∃ l, lenHi S0 = l := ⟨_, rfl⟩
    rw [hl3] at hl1
    rw [hl4] at hl2
    have ql1 : decide (l1 = l1) = true := decide_eq_true rfl
    have ql2 : decide (l2 = l2) = true := decide_eq_true rfl
    have hsym := mirL_sym nw gw a b c d e f nw
    have hmem := fun j (hj : j < (mirL nw gw a b c d e f nw).length) => mirL_mem hj
    obtain ⟨m, hm⟩ : ∃ m, (mirL nw gw a b c d e f nw).length = m := ⟨_, rfl⟩
    have hmn : m ≤ nw := by rw [← hm]; exact mirL_len ..
    obtain ⟨Ix, hIx⟩ : ∃ F : Nat → Nat, ∀ i, (mirL nw gw a b c d e f nw)[i]?.getD 0 = F i := ⟨_, fun _ => rfl⟩
    have hmem : ∀ j, j < m → Ix j < nw ∧ mirP nw gw a b c d e f (Ix j) := fun j hj => by
      have := hmem j (by omega)
      rw [List.getD_eq_getElem?_getD, hIx] at this
      exact this
    obtain ⟨X, hX⟩ : ∃ F : Nat → Int, ∀ i, wIx gw i a b = F i := ⟨_, fun _ => rfl⟩
    obtain ⟨Y, hY⟩ : ∃ F : Nat → Int, ∀ i, wIy gw i a b = F i := ⟨_, fun _ => rfl⟩
    obtain ⟨S, hS⟩ : ∃ F : Nat → Int, ∀ i, apartE (X i) (Y i) c d e f = F i := ⟨_, fun _ => rfl⟩
    obtain ⟨X', hX'⟩ : ∃ F : Nat → Int, ∀ i, wIx gw i d e = F i := ⟨_, fun _ => rfl⟩
    obtain ⟨Y', hY'⟩ : ∃ F : Nat → Int, ∀ i, wIy gw i d e = F i := ⟨_, fun _ => rfl⟩
    obtain ⟨S', hS'⟩ : ∃ F : Nat → Int, ∀ i, apartE (X' i) (Y' i) f a b c = F i := ⟨_, fun _ => rfl⟩
    obtain ⟨R1, R2, R3, R4, R5, R6, hR⟩ : ∃ R1 R2 R3 R4 R5 R6 : Nat → Int, ∀ i, mirR gw a b c d e f i = [.int .i64 i, .int .i64 (X i), .int .i64 (Y i), .int .i64 c, .int .i64 (R1 i), .int .i64 (R2 i), .int .i64 (R3 i), .int .i64 (R4 i), .int .i64 (R5 i), .int .i64 (R6 i), .int .i64 (S i)] :=
      ⟨_, _, _, _, _, _, fun i => by unfold mirR; rw [hX, hY, hS]⟩
    obtain ⟨T1, T2, T3, T4, T5, T6, hT⟩ : ∃ R1 R2 R3 R4 R5 R6 : Nat → Int, ∀ i, mirR gw d e f a b c i = [.int .i64 i, .int .i64 (X' i), .int .i64 (Y' i), .int .i64 f, .int .i64 (R1 i), .int .i64 (R2 i), .int .i64 (R3 i), .int .i64 (R4 i), .int .i64 (R5 i), .int .i64 (R6 i), .int .i64 (S' i)] :=
      ⟨_, _, _, _, _, _, fun i => by unfold mirR; rw [hX', hY', hS']⟩
    have hdm : decide ((m : Int) = (m : Int)) = true := decide_eq_true rfl
    have hdw : decide ((nw : Int) < (m : Int)) = false := decide_eq_false (by omega)
    have hdb : decide ((inN ga 0 4 : Int) = (inN ga 0 4 : Int)) = true := decide_eq_true rfl
    simp only [Proofs.Tryz.f3]
    rw [enter_mkT (Nat.le_of_ble_eq_true rfl)]
    simp (maxSteps := 4000000) only [go_sem, ↓op_move, ↓op_assign, ↓op_pick, ↓op_alloc, ↓op_box, ↓op_build, ↓op_buildSlice, ↓op_load, ↓op_store, ↓op_nilCheck, ↓op_bin, ↓op_un, ↓op_convert, ↓op_makeFunc, ↓op_makeSlice, ↓op_slice, ↓op_fieldAddr, ↓op_field, ↓op_indexAddr, ↓op_index, ↓op_extract, ↓op_lookup, ↓op_mapUpdate, ↓op_makeMap, ↓op_range, ↓op_next, ↓op_call, ↓op_builtin, ↓g_tt, ↓g_ff, ↓g_tf, ↓g_ft, ↓g_tnt, ↓g_tnf, ↓g_fnt, ↓g_fnf, ↓mkT_getD, hp1, hp2, hp3, hfit, hS0, hsq0, hl1, hl2, hl3, hl4, ql1, ql2, hsym, hm, hdm, hdw, hdb, hg0, hp0, hIx]
    refine ⟨⟨hw, ht, ha⟩, hpath, ⟨hs, hr⟩, ⟨by omega, by omega⟩, ⟨⟨_, _, rfl⟩, hw, by omega⟩, ⟨⟨hw, hwo, hs, hr⟩, mirPu (f := Ix)⟩, ⟨⟨_, _, rfl⟩, hw, by omega⟩, ⟨⟨hw, hwo, hr, hs⟩, mirPu (f := Ix)⟩, hcp, ⟨ha, hae, hpath⟩, by omega, ?_⟩
    refine RestT.loopF (β := Nat) [(2, 2), (14, 27), (136, 269)] (fun i => [(136, .int .i64 i)]) (fun _ => _) (fun i => i ≤ m) (fun i => m - i) 0 (Nat.zero_le _) ?_ (HpLe.refl _) ?_
    · simp (maxSteps := 4000000) only [go_sem, ↓op_move, ↓op_assign, ↓op_pick, ↓op_alloc, ↓op_box, ↓op_build, ↓op_buildSlice, ↓op_load, ↓op_store, ↓op_nilCheck, ↓op_bin, ↓op_un, ↓op_convert, ↓op_makeFunc, ↓op_makeSlice, ↓op_slice, ↓op_fieldAddr, ↓op_field, ↓op_indexAddr, ↓op_index, ↓op_extract, ↓op_lookup, ↓op_mapUpdate, ↓op_makeMap, ↓op_range, ↓op_next, ↓op_call, ↓op_builtin, ↓g_tt, ↓g_ff, ↓g_tf, ↓g_ft, ↓g_tnt, ↓g_tnf, ↓g_fnt, ↓g_fnf, ↓mkT_getD]
      try exact rfl
    · intro ck i hck hi
      have hi : i ≤ m := hi
      generalize hq0 : exC _ _ _ _ _ = gg
      by_cases hlt : i < m
      · have hd : decide ((i : Int) < (m : Int)) = true := by simp; omega
        obtain ⟨hkn, hev, hrp⟩ := hmem i hlt
        have hwk := hwo.wall (Ix i) hkn
        have e1 : S' (Ix i) = S (Ix i) := by rw [← hS', ← hS, ← hX', ← hY', ← hX, ← hY]; exact img_apart hev a b c d e f
        have e2 : S0 ≤ S (Ix i) := by rw [← hS, ← hX, ← hY, ← hS0]; exact img_far hev hrp.1
        have q1 : decide ((Ix i : Int) = (Ix i : Int)) = true := decide_eq_true rfl
        have q2 : decide (S (Ix i) = S (Ix i)) = true := decide_eq_true rfl
        have q3 : decide (S (Ix i) < S0) = false := decide_eq_false (by omega)
        by_cases hbig : 20000000 < S (Ix i)
        · have q4 : decide (20000000 < S (Ix i)) = true := decide_eq_true hbig
          rw [← hq0]
          clear hq0
          simp (maxSteps := 4000000) only [go_sem, ↓op_move, ↓op_assign, ↓op_pick, ↓op_alloc, ↓op_box, ↓op_build, ↓op_buildSlice, ↓op_load, ↓op_store, ↓op_nilCheck, ↓op_bin, ↓op_un, ↓op_convert, ↓op_makeFunc, ↓op_makeSlice, ↓op_slice, ↓op_fieldAddr, ↓op_field, ↓op_indexAddr, ↓op_index, ↓op_extract, ↓op_lookup, ↓op_mapUpdate, ↓op_makeMap, ↓op_range, ↓op_next, ↓op_call, ↓op_builtin, ↓g_tt, ↓g_ff, ↓g_tf, ↓g_ft, ↓g_tnt, ↓g_tnf, ↓g_fnt, ↓g_fnf, ↓mkT_getD, hd, hp1, hp2, hp3, hR, hT, e1, q1, q2, q3, q4, hS0]
          exact ⟨⟨by omega, by omega⟩, ⟨by omega, by omega⟩, ⟨hs, hr⟩, inK_of (by omega) (by omega), by omega, i + 1, hlt, by omega, rfl, (((((HpLe.refl _).more (by simp [updH])).more (by simp [updH])).more (by simp [updH])).more (by simp [updH]))⟩
        · have q4 : decide (20000000 < S (Ix i)) = false := decide_eq_false hbig
          have ib1 := img_bd (bx := cell gw (Ix i) 3) (ky := cell gw (Ix i) 4) hwk.p1 hwk.p2 hs.1 hs.2.1
          have ib2 := img_bd (bx := cell gw (Ix i) 3) (ky := cell gw (Ix i) 4) hwk.p1 hwk.p2 hr.1 hr.2.1
          have ib1 : (-3000 ≤ X (Ix i) ∧ X (Ix i) ≤ 3000) ∧ -3000 ≤ Y (Ix i) ∧ Y (Ix i) ≤ 3000 := by rw [← hX, ← hY]; exact ib1
          have ib2 : (-3000 ≤ X' (Ix i) ∧ X' (Ix i) ≤ 3000) ∧ -3000 ≤ Y' (Ix i) ∧ Y' (Ix i) ≤ 3000 := by rw [← hX', ← hY']; exact ib2
          have ps1 : PathOk (X (Ix i)) (Y (Ix i)) c d e f := spot_path ib1 hs.2.2 hr (by rw [hS]; omega)
          have ps2 : PathOk (X' (Ix i)) (Y' (Ix i)) f a b c := spot_path ib2 hr.2.2 hs (by rw [hS']; omega)
          have hsqI : sqE (X (Ix i)) (Y (Ix i)) c d e f = S (Ix i) := by rw [sq_apart, hS]
          have hsqJ : sqE (X' (Ix i)) (Y' (Ix i)) f a b c = S (Ix i) := by rw [sq_apart, hS', e1]
          obtain ⟨hk1, hk2⟩ := len_root (s := S (Ix i)) (by omega)
          obtain ⟨k1, hk3⟩ : ∃ l, lenLo (S (Ix i)) = l := ⟨_, rfl⟩
          obtain ⟨k2, hk4⟩ : ∃ l, lenHi (S (Ix i)) = l := ⟨_, rfl⟩
          rw [hk3] at hk1
          rw [hk4] at hk2
          have qk1 : decide (k1 = k1) = true := decide_eq_true rfl
          have qk2 : decide (k2 = k2) = true := decide_eq_true rfl
          have hiv1 := isIv_fn (fun t => pLo na ga (X (Ix i)) (Y (Ix i)) c d e f t) (fun t => pHi na ga (X (Ix i)) (Y (Ix i)) c d e f t) (show inN ga 0 4 ≤ 9223372036854775807 by omega)
          have hiv2 := isIv_fn (fun t => pLo na ga (X' (Ix i)) (Y' (Ix i)) f a b c t) (fun t => pHi na ga (X' (Ix i)) (Y' (Ix i)) f a b c t) (show inN ga 0 4 ≤ 9223372036854775807 by omega)
          have hps := fun t : Nat => p_same (n := na) (get := ga) (show sqE (X' (Ix i)) (Y' (Ix i)) f a b c = sqE (X (Ix i)) (Y (Ix i)) c d e f by rw [hsqI, hsqJ]) t
          have hlong := fun (k : Nat) (hk : k < inN ga 0 4) => p_longer (a' := X (Ix i)) (b' := Y (Ix i)) hok hpath (by rw [hsq0, hsqI]; exact e2) hk
          rw [← hq0]
          clear hq0
          simp (maxSteps := 4000000) only [go_sem, ↓op_move, ↓op_assign, ↓op_pick, ↓op_alloc, ↓op_box, ↓op_build, ↓op_buildSlice, ↓op_load, ↓op_store, ↓op_nilCheck, ↓op_bin, ↓op_un, ↓op_convert, ↓op_makeFunc, ↓op_makeSlice, ↓op_slice, ↓op_fieldAddr, ↓op_field, ↓op_indexAddr, ↓op_index, ↓op_extract, ↓op_lookup, ↓op_mapUpdate, ↓op_makeMap, ↓op_range, ↓op_next, ↓op_call, ↓op_builtin, ↓g_tt, ↓g_ff, ↓g_tf, ↓g_ft, ↓g_tnt, ↓g_tnf, ↓g_fnt, ↓g_fnf, ↓mkT_getD, hd, hp1, hp2, hp3, hR, hT, e1, q1, q2, q3, q4, hS0, hsqI, hsqJ, hk1, hk2, hk3, hk4, qk1, qk2, hdb]
          refine ⟨⟨by omega, by omega⟩, ⟨by omega, by omega⟩, ⟨hs, hr⟩, ps1, ⟨by omega, by omega⟩, hcp, ⟨ha, hae, ps1⟩, hcp, ⟨ha, hae, ps2⟩, ⟨hiv1, hiv2, fun t _ => ⟨(hps t).1.symm, (hps t).2.symm⟩⟩, ?_⟩
          refine RestT.loopF (β := Nat) [(2, 2), (27, 27), (241, 268)] (fun j => [(241, .int .i64 j)]) (fun _ => _) (fun j => j ≤ inN ga 0 4) (fun j => inN ga 0 4 - j) 0 (Nat.zero_le _) ?_ (HpLe.refl _) ?_
          · simp (maxSteps := 4000000) only [go_sem, ↓op_move, ↓op_assign, ↓op_pick, ↓op_alloc, ↓op_box, ↓op_build, ↓op_buildSlice, ↓op_load, ↓op_store, ↓op_nilCheck, ↓op_bin, ↓op_un, ↓op_convert, ↓op_makeFunc, ↓op_makeSlice, ↓op_slice, ↓op_fieldAddr, ↓op_field, ↓op_indexAddr, ↓op_index, ↓op_extract, ↓op_lookup, ↓op_mapUpdate, ↓op_makeMap, ↓op_range, ↓op_next, ↓op_call, ↓op_builtin, ↓g_tt, ↓g_ff, ↓g_tf, ↓g_ft, ↓g_tnt, ↓g_tnf, ↓g_fnt, ↓g_fnf, ↓mkT_getD]
            try exact rfl
          · intro ck2 j hck2 hj
            have hj : j ≤ inN ga 0 4 := hj
            generalize hq1 : exC _ _ _ _ _ = gg1
            by_cases hlt2 : j < inN ga 0 4
            · have hd2 : decide ((j : Int) < (inN ga 0 4 : Int)) = true := by simp; omega
              have hl := hlong j hlt2
              have q5 : decide (pLo na ga a b c d e f j < pLo na ga (X (Ix i)) (Y (Ix i)) c d e f j) = false := decide_eq_false (by omega)
              have q6 : decide (pHi na ga a b c d e f j < pHi na ga (X (Ix i)) (Y (Ix i)) c d e f j) = false := decide_eq_false (by omega)
              rw [← hq1]
              clear hq1
              simp (maxSteps := 4000000) only [go_sem, ↓op_move, ↓op_assign, ↓op_pick, ↓op_alloc, ↓op_box, ↓op_build, ↓op_buildSlice, ↓op_load, ↓op_store, ↓op_nilCheck, ↓op_bin, ↓op_un, ↓op_convert, ↓op_makeFunc, ↓op_makeSlice, ↓op_slice, ↓op_fieldAddr, ↓op_field, ↓op_indexAddr, ↓op_index, ↓op_extract, ↓op_lookup, ↓op_mapUpdate, ↓op_makeMap, ↓op_range, ↓op_next, ↓op_call, ↓op_builtin, ↓g_tt, ↓g_ff, ↓g_tf, ↓g_ft, ↓g_tnt, ↓g_tnf, ↓g_fnt, ↓g_fnf, ↓mkT_getD, hd2, hp1, hp2, hp3, q5, q6]
              exact ⟨⟨by omega, by omega⟩, ⟨by omega, by omega⟩, ⟨by omega, by omega⟩, ⟨by omega, by omega⟩, inK_of (by omega) (by omega), by omega, j + 1, hlt2, by omega, rfl, HpLe.refl _⟩
            · have hd2 : decide ((j : Int) < (inN ga 0 4 : Int)) = false := by simp; omega
              rw [← hq1]
              clear hq1
              simp (maxSteps := 4000000) only [go_sem, ↓op_move, ↓op_assign, ↓op_pick, ↓op_alloc, ↓op_box, ↓op_build, ↓op_buildSlice, ↓op_load, ↓op_store, ↓op_nilCheck, ↓op_bin, ↓op_un, ↓op_convert, ↓op_makeFunc, ↓op_makeSlice, ↓op_slice, ↓op_fieldAddr, ↓op_field, ↓op_indexAddr, ↓op_index, ↓op_extract, ↓op_lookup, ↓op_mapUpdate, ↓op_makeMap, ↓op_range, ↓op_next, ↓op_call, ↓op_builtin, ↓g_tt, ↓g_ff, ↓g_tf, ↓g_ft, ↓g_tnt, ↓g_tnf, ↓g_fnt, ↓g_fnf, ↓mkT_getD, hd2, hp1, hp2, hp3]
              exact ⟨inK_of (by omega) (by omega), by omega, i + 1, hlt, by omega, rfl, (((((((((((((HpLe.refl _).more (by simp [updH])).more (by simp [updH])).more (by simp [updH])).more (by simp [updH])).more (by simp [updH])).more (by simp [updH])).more (by simp [updH])).more (by simp [updH])).more (by simp [updH])).more (by simp [updH])).more (by simp [updH])).more (by simp [updH]))⟩
      · have hd : decide ((i : Int) < (m : Int)) = false := by simp; omega
        rw [← hq0]
        clear hq0
        simp (maxSteps := 4000000) only [go_sem, ↓op_move, ↓op_assign, ↓op_pick, ↓op_alloc, ↓op_box, ↓op_build, ↓op_buildSlice, ↓op_load, ↓op_store, ↓op_nilCheck, ↓op_bin, ↓op_un, ↓op_convert, ↓op_makeFunc, ↓op_makeSlice, ↓op_slice, ↓op_fieldAddr, ↓op_field, ↓op_indexAddr, ↓op_index, ↓op_extract, ↓op_lookup, ↓op_mapUpdate, ↓op_makeMap, ↓op_range, ↓op_next, ↓op_call, ↓op_builtin, ↓g_tt, ↓g_ff, ↓g_tf, ↓g_ft, ↓g_tnt, ↓g_tnf, ↓g_fnt, ↓g_fnf, ↓mkT_getD, hd, hp1, hp2, hp3]
        exact VEnt.of_eq rfl
end Go.Fly.Tryz
end
section
/- The law TopEaveEchoes, from the data that a call is handed. -/
set_option maxRecDepth 100000
namespace Go.Fly.Tryz
open Go Go.ChangeShapes Go.WideShapes Go.RowKit

theorem c3 : Proofs.Tryz.prog.cellsOf 3 = 1 := by kernel_rfl
theorem c9 : Proofs.Tryz.prog.cellsOf 9 = 1 := by kernel_rfl
theorem c22 : Proofs.Tryz.prog.cellsOf 22 = 1 := by kernel_rfl
theorem c23 : Proofs.Tryz.prog.cellsOf 23 = 1 := by kernel_rfl
theorem c24 : Proofs.Tryz.prog.cellsOf 24 = 1 := by kernel_rfl
theorem c45 : Proofs.Tryz.prog.cellsOf 45 = 1 := by kernel_rfl
theorem c140 : Proofs.Tryz.prog.cellsOf 140 = 1 := by kernel_rfl
theorem c34 : Proofs.Tryz.prog.cellsOf 34 = 2 := by kernel_rfl
theorem c51 : Proofs.Tryz.prog.cellsOf 51 = 2 := by kernel_rfl
theorem c101 : Proofs.Tryz.prog.cellsOf 101 = 2 := by kernel_rfl
theorem c26 : Proofs.Tryz.prog.cellsOf 26 = 3 := by kernel_rfl
theorem c142 : Proofs.Tryz.prog.cellsOf 142 = 3 := by kernel_rfl
theorem c53 : Proofs.Tryz.prog.cellsOf 53 = 5 := by kernel_rfl
theorem c91 : Proofs.Tryz.prog.cellsOf 91 = 7 := by kernel_rfl
theorem c28 : Proofs.Tryz.prog.cellsOf 28 = 10 := by kernel_rfl
theorem c143 : Proofs.Tryz.prog.cellsOf 143 = 12 := by kernel_rfl

theorem Reads.mono {P : Program} {W : World} {t : TypeId} {sz : Nat} {S S' : List V → Prop} (h : Reads P W t sz S) (hs : ∀ g, S g → S' g) : Reads P W t sz S' := fun H enc held fuel cs x hx => by
  obtain ⟨g, h1, h2, h3, h4, h5⟩ := h H enc held fuel cs x hx
  exact ⟨g, h1, h2, h3, h4, hs g h5⟩

def SI : List V → Prop := fun g => ∃ n, inK .i64 n ∧ g = [.int .i64 n]
def SStr : List V → Prop := fun g => ∃ s, s.length ≤ 9223372036854775807 ∧ g = [.str s]
theorem rI (W : World) : Reads Proofs.Tryz.prog W 3 1 SI := reads_int Proofs.Tryz.underlying3
theorem rStr (W : World) : Reads Proofs.Tryz.prog W 9 1 SStr := reads_str Proofs.Tryz.underlying9
theorem rPt (W : World) : Reads Proofs.Tryz.prog W 51 2 (Seq [(3, 1, SI), (3, 1, SI)]) :=
  reads_struct [(3, 1, SI), (3, 1, SI)] Proofs.Tryz.underlying51 c51 ⟨rI W, rI W, trivial⟩ fun tr cs h => by
    have h0 : tr 3 ((cs.drop 0).take (Proofs.Tryz.prog.cellsOf 3)) := h 0 _ rfl
    have h1 : tr 3 ((cs.drop 1).take (Proofs.Tryz.prog.cellsOf 3)) := h 1 _ rfl
    rw [c3] at h0
    rw [c3] at h1
    exact ⟨h0, h1, trivial⟩
theorem rIv (W : World) : Reads Proofs.Tryz.prog W 34 2 (Seq [(3, 1, SI), (3, 1, SI)]) :=
  reads_struct [(3, 1, SI), (3, 1, SI)] Proofs.Tryz.underlying34 c34 ⟨rI W, rI W, trivial⟩ fun tr cs h => by
    have h0 : tr 3 ((cs.drop 0).take (Proofs.Tryz.prog.cellsOf 3)) := h 0 _ rfl
    have h1 : tr 3 ((cs.drop 1).take (Proofs.Tryz.prog.cellsOf 3)) := h 1 _ rfl
    rw [c3] at h0
    rw [c3] at h1
    exact ⟨h0, h1, trivial⟩
theorem rStep (W : World) : Reads Proofs.Tryz.prog W 101 2 (Seq [(3, 1, SI), (3, 1, SI)]) :=
  reads_struct [(3, 1, SI), (3, 1, SI)] Proofs.Tryz.underlying101 c101 ⟨rI W, rI W, trivial⟩ fun tr cs h => by
    have h0 : tr 3 ((cs.drop 0).take (Proofs.Tryz.prog.cellsOf 3)) := h 0 _ rfl
    have h1 : tr 3 ((cs.drop 1).take (Proofs.Tryz.prog.cellsOf 3)) := h 1 _ rfl
    rw [c3] at h0
    rw [c3] at h1
    exact ⟨h0, h1, trivial⟩
theorem rVec (W : World) : Reads Proofs.Tryz.prog W 26 3 (Seq [(3, 1, SI), (3, 1, SI), (3, 1, SI)]) :=
  reads_struct [(3, 1, SI), (3, 1, SI), (3, 1, SI)] Proofs.Tryz.underlying26 c26 ⟨rI W, rI W, rI W, trivial⟩ fun tr cs h => by
    have h0 : tr 3 ((cs.drop 0).take (Proofs.Tryz.prog.cellsOf 3)) := h 0 _ rfl
    have h1 : tr 3 ((cs.drop 1).take (Proofs.Tryz.prog.cellsOf 3)) := h 1 _ rfl
    have h2 : tr 3 ((cs.drop 2).take (Proofs.Tryz.prog.cellsOf 3)) := h 2 _ rfl
    rw [c3] at h0
    rw [c3] at h1
    rw [c3] at h2
    exact ⟨h0, h1, h2, trivial⟩
def SIvs : List V → Prop := fun g => ∃ n get, IsIv n get ∧ g = [.sl n 2 get]
theorem rIvs (W : World) : Reads Proofs.Tryz.prog W 45 1 SIvs := Reads.mono (reads_slice Proofs.Tryz.underlying45 c34 (by decide) (rIv W)) fun g ⟨n, get, hn, hi, hg⟩ =>
  ⟨n, get, ⟨hn, fun i h => by
    obtain ⟨a, b, ⟨x, _, rfl⟩, ⟨c, d, ⟨y, _, rfl⟩, rfl, rfl⟩, e⟩ := hi i h
    rw [e]; simp [cell, e]⟩, hg⟩
theorem rSteps (W : World) : Reads Proofs.Tryz.prog W 23 1 SIvs := Reads.mono (reads_slice Proofs.Tryz.underlying23 c101 (by decide) (rStep W)) fun g ⟨n, get, hn, hi, hg⟩ =>
  ⟨n, get, ⟨hn, fun i h => by
    obtain ⟨a, b, ⟨x, _, rfl⟩, ⟨c, d, ⟨y, _, rfl⟩, rfl, rfl⟩, e⟩ := hi i h
    rw [e]; simp [cell, e]⟩, hg⟩
theorem rLay (W : World) : Reads Proofs.Tryz.prog W 53 5 (Seq [(3, 1, SI), (3, 1, SI), (51, 2, Seq [(3, 1, SI), (3, 1, SI)]), (45, 1, SIvs)]) :=
  reads_struct [(3, 1, SI), (3, 1, SI), (51, 2, Seq [(3, 1, SI), (3, 1, SI)]), (45, 1, SIvs)] Proofs.Tryz.underlying53 c53 ⟨rI W, rI W, rPt W, rIvs W, trivial⟩ fun tr cs h => by
    have h0 : tr 3 ((cs.drop 0).take (Proofs.Tryz.prog.cellsOf 3)) := h 0 _ rfl
    have h1 : tr 3 ((cs.drop 1).take (Proofs.Tryz.prog.cellsOf 3)) := h 1 _ rfl
    have h2 : tr 51 ((cs.drop 2).take (Proofs.Tryz.prog.cellsOf 51)) := h 2 _ rfl
    have h3 : tr 45 ((cs.drop 4).take (Proofs.Tryz.prog.cellsOf 45)) := h 3 _ rfl
    rw [c3] at h0
    rw [c3] at h1
    rw [c51] at h2
    rw [c45] at h3
    exact ⟨h0, h1, h2, h3, trivial⟩
def SAir : List V → Prop := fun g => ∃ n get, IsAir n get ∧ g = [.sl n 5 get]
theorem rAirs (W : World) : Reads Proofs.Tryz.prog W 24 1 SAir := Reads.mono (reads_slice Proofs.Tryz.underlying24 c53 (by decide) (rLay W)) fun g ⟨n, get, hn, hi, hg⟩ =>
  ⟨n, get, ⟨hn, fun i h => by
    obtain ⟨_, _, ⟨x, _, rfl⟩, ⟨_, _, ⟨y, _, rfl⟩, ⟨_, _, ⟨_, _, ⟨u, _, rfl⟩, ⟨_, _, ⟨v, _, rfl⟩, rfl, rfl⟩, rfl⟩, ⟨_, _, ⟨m, gg, hm, rfl⟩, rfl, rfl⟩, rfl⟩, rfl⟩, e⟩ := hi i h
    have e1 : inN get i 4 = m := by simp [inN, e]
    have e2 : inG get i 4 = gg := by simp [inG, e]
    rw [e1, e2]
    refine ⟨?_, hm⟩
    rw [e]; simp [cell, e]⟩, hg⟩
theorem rWall (W : World) : Reads Proofs.Tryz.prog W 91 7 (Seq [(9, 1, SStr), (51, 2, Seq [(3, 1, SI), (3, 1, SI)]), (51, 2, Seq [(3, 1, SI), (3, 1, SI)]), (3, 1, SI), (3, 1, SI)]) :=
  reads_struct [(9, 1, SStr), (51, 2, Seq [(3, 1, SI), (3, 1, SI)]), (51, 2, Seq [(3, 1, SI), (3, 1, SI)]), (3, 1, SI), (3, 1, SI)] Proofs.Tryz.underlying91 c91 ⟨rStr W, rPt W, rPt W, rI W, rI W, trivial⟩ fun tr cs h => by
    have h0 : tr 9 ((cs.drop 0).take (Proofs.Tryz.prog.cellsOf 9)) := h 0 _ rfl
    have h1 : tr 51 ((cs.drop 1).take (Proofs.Tryz.prog.cellsOf 51)) := h 1 _ rfl
    have h2 : tr 51 ((cs.drop 3).take (Proofs.Tryz.prog.cellsOf 51)) := h 2 _ rfl
    have h3 : tr 3 ((cs.drop 5).take (Proofs.Tryz.prog.cellsOf 3)) := h 3 _ rfl
    have h4 : tr 3 ((cs.drop 6).take (Proofs.Tryz.prog.cellsOf 3)) := h 4 _ rfl
    rw [c9] at h0
    rw [c51] at h1
    rw [c51] at h2
    rw [c3] at h3
    rw [c3] at h4
    exact ⟨h0, h1, h2, h3, h4, trivial⟩
def SWalls : List V → Prop := fun g => ∃ n get, IsWalls n get ∧ g = [.sl n 7 get]
theorem rWalls (W : World) : Reads Proofs.Tryz.prog W 22 1 SWalls := Reads.mono (reads_slice Proofs.Tryz.underlying22 c91 (by decide) (rWall W)) fun g ⟨n, get, hn, hi, hg⟩ =>
  ⟨n, get, ⟨hn, fun i h => by
    obtain ⟨_, _, ⟨s, hs, rfl⟩, ⟨_, _, ⟨_, _, ⟨x, _, rfl⟩, ⟨_, _, ⟨y, _, rfl⟩, rfl, rfl⟩, rfl⟩, ⟨_, _, ⟨_, _, ⟨u, _, rfl⟩, ⟨_, _, ⟨v, _, rfl⟩, rfl, rfl⟩, rfl⟩, ⟨_, _, ⟨p, _, rfl⟩, ⟨_, _, ⟨q, _, rfl⟩, rfl, rfl⟩, rfl⟩, rfl⟩, rfl⟩, e⟩ := hi i h
    have e1 : wName get i = s := by simp [wName, e]
    rw [e1]
    refine ⟨?_, hs⟩
    rw [e]; simp [cell, e]⟩, hg⟩
theorem rTown0 (W : World) : Reads Proofs.Tryz.prog W 28 10 (Seq [(22, 1, SWalls), (23, 1, SIvs), (24, 1, SAir), (26, 3, Seq [(3, 1, SI), (3, 1, SI), (3, 1, SI)]), (26, 3, Seq [(3, 1, SI), (3, 1, SI), (3, 1, SI)]), (3, 1, SI)]) :=
  reads_struct [(22, 1, SWalls), (23, 1, SIvs), (24, 1, SAir), (26, 3, Seq [(3, 1, SI), (3, 1, SI), (3, 1, SI)]), (26, 3, Seq [(3, 1, SI), (3, 1, SI), (3, 1, SI)]), (3, 1, SI)] Proofs.Tryz.underlying28 c28 ⟨rWalls W, rSteps W, rAirs W, rVec W, rVec W, rI W, trivial⟩ fun tr cs h => by
    have h0 : tr 22 ((cs.drop 0).take (Proofs.Tryz.prog.cellsOf 22)) := h 0 _ rfl
    have h1 : tr 23 ((cs.drop 1).take (Proofs.Tryz.prog.cellsOf 23)) := h 1 _ rfl
    have h2 : tr 24 ((cs.drop 2).take (Proofs.Tryz.prog.cellsOf 24)) := h 2 _ rfl
    have h3 : tr 26 ((cs.drop 3).take (Proofs.Tryz.prog.cellsOf 26)) := h 3 _ rfl
    have h4 : tr 26 ((cs.drop 6).take (Proofs.Tryz.prog.cellsOf 26)) := h 4 _ rfl
    have h5 : tr 3 ((cs.drop 9).take (Proofs.Tryz.prog.cellsOf 3)) := h 5 _ rfl
    rw [c22] at h0
    rw [c23] at h1
    rw [c24] at h2
    rw [c26] at h3
    rw [c26] at h4
    rw [c3] at h5
    exact ⟨h0, h1, h2, h3, h4, h5, trivial⟩
def STown : List V → Prop := fun g => ∃ nw gw nt gt na ga a b c d e f en, IsWalls nw gw ∧ IsIv nt gt ∧ IsAir na ga ∧
  g = [.sl nw 7 gw, .sl nt 2 gt, .sl na 5 ga, .int .i64 a, .int .i64 b, .int .i64 c, .int .i64 d, .int .i64 e, .int .i64 f, .int .i64 en]
theorem rTown (W : World) : Reads Proofs.Tryz.prog W 28 10 STown := Reads.mono (rTown0 W) fun g hg => by
  obtain ⟨_, _, ⟨nw, gw, hw, rfl⟩, ⟨_, _, ⟨nt, gt, ht, rfl⟩, ⟨_, _, ⟨na, ga, ha, rfl⟩, ⟨_, _, ⟨_, _, ⟨a, _, rfl⟩, ⟨_, _, ⟨b, _, rfl⟩, ⟨_, _, ⟨c, _, rfl⟩, rfl, rfl⟩, rfl⟩, rfl⟩, ⟨_, _, ⟨_, _, ⟨d, _, rfl⟩, ⟨_, _, ⟨e, _, rfl⟩, ⟨_, _, ⟨f, _, rfl⟩, rfl, rfl⟩, rfl⟩, rfl⟩, ⟨_, _, ⟨en, _, rfl⟩, rfl, rfl⟩, rfl⟩, rfl⟩, rfl⟩, rfl⟩, rfl⟩ := hg
  exact ⟨nw, gw, nt, gt, na, ga, a, b, c, d, e, f, en, hw, ht, ha, rfl⟩
end Go.Fly.Tryz
end
