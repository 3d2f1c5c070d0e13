/- The verifier: what fits. -/
import Derived.Test.YtlfciglmhomdpaaSBH
import Derived.Test.YtlfciglmhomdpaaAQ
set_option linter.unusedSimpArgs false
set_option linter.unusedVariables false
set_option maxRecDepth 100000
set_option maxHeartbeats 1000000
namespace Go.Fly.Try
open Go

theorem tFits_ok : Holds Proofs.Try.prog G0 4 fitsC := by
  refine Holds.of_exC D4 Proofs.Try.func4 rfl foll (by kernel_rfl) (tab [(12, shortC), (13, typeC), (14, shortAirC), (15, airC), (16, stateC), (iceKey 3, iceC), (iceKey 5, iceC)]) (tab_ok ⟨rShort_ok, rType_ok, rAirShort_ok, rAir_ok, rState_ok, ice_holds, ice_holds, trivial⟩) G0_ok fun k0 rl args hpu hpre => ?_
  unfold fitsC at hpre ⊢
  split at hpre
  rotate_left
  · exact hpre.elim
  rename_i s ns zs gs d0 d1 d2 d3 d4 d5 d6 d7 side nq zq gq m zt gt n sz get x y z hx hy p ax ay az
  obtain ⟨rfl, rfl, rfl, hs, hq, ht, hsl, rfl, hair, hzk⟩ := hpre
  have hp1 := hs.pu
  have hp2 := hq.pu
  have hp3 := ht.pu
  have hp := hair.pu
  by_cases hae : airE n get = 0
  · have hok := airE_ok hae
    obtain ⟨hg0, hiv0⟩ := hair.2 0 hok.cnt.1
    have hp0 := hiv0.pu
    have hda : decide (airE n get = 0) = true := decide_eq_true hae
    simp only [Proofs.Try.f4]
    simp (maxSteps := 4000000) only [go_sem, ↓op_move, ↓op_assign, ↓op_pick, ↓op_alloc, ↓op_box, ↓op_build, ↓op_buildSlice, ↓op_load, ↓op_store, ↓op_nilCheck, ↓op_bin, ↓op_un, ↓op_convert, ↓op_makeFunc, ↓op_makeSlice, ↓op_slice, ↓op_fieldAddr, ↓op_field, ↓op_indexAddr, ↓op_index, ↓op_extract, ↓op_range, ↓op_next, ↓op_call, ↓op_builtin, ↓g_tt, ↓g_ff, ↓g_tf, ↓g_ft, ↓g_tnt, ↓g_tnf, ↓g_fnt, ↓g_fnf, hp1, hp2, hp3, hp, hg0, hp0, hda]
    have no : ∀ {b : Bool}, ¬ b = true → VEnt (.bool false) (.bool b) := fun {b} h => VEnt.of_eq (by rw [Bool.eq_false_iff.2 h])
    refine ⟨⟨hs, hq, ht⟩, fun h1 => ⟨⟨hs, hq, ht, hsl⟩, fun h2 => ⟨hair, fun h3 => ⟨hair, by have := hok.cnt; omega, fun h4 => ⟨fun h5 => no fun q => ?_, fun h5 => ?_⟩, fun h4 => no fun q => ?_⟩, fun h3 => no fun q => ?_⟩, fun h2 => no fun q => ?_⟩, fun h1 => no fun q => ?_⟩
    · simp [(fitsB_iff.1 q).2.2.2.2.2.1] at h5
    rotate_left
    · simp [(fitsB_iff.1 q).2.2.2.2.1] at h4
    · simp [(fitsB_iff.1 q).2.2.1] at h3
    · simp [(fitsB_iff.1 q).2.1] at h2
    · simp [(fitsB_iff.1 q).1] at h1
    have g1 : shortB s ns nq m gt = true := by simpa using h1
    have g2 : typeE s ns gs (dirAt d0 d1 d2 d3 d4 d5 d6 d7) side nq gq m gt = 0 := by simpa using h2
    have g3 : shortAirB n get = true := by simpa using h3
    have g4 : inN get 0 4 = ns := by have : (inN get 0 4 : Int) = ns := by simpa using h4
                                     omega
    have g5 : stateE x y z hx hy p = 0 := by simpa using h5
    obtain ⟨⟨hx1, hy1, hz1⟩, -⟩ := stateE_zero.1 g5
    refine RestT.loopI (β := Nat) [6, 8, 60, 61, 62, 63, 64, 65, 66, 67, 68] (fun i => [(59, .int .i64 i)]) (fun _ => _) (fun i => i ≤ 4 ∧ (0 < i → -2000 ≤ x ∧ x ≤ 2000) ∧ (1 < i → -2000 ≤ y ∧ y ≤ 2000) ∧ (2 < i → -2000 ≤ ax ∧ ax ≤ 2000) ∧ (3 < i → -2000 ≤ ay ∧ ay ≤ 2000)) (fun i => 4 - i) 0
      ⟨by decide, fun h => absurd h (by decide), fun h => absurd h (by decide), fun h => absurd h (by decide), fun h => absurd h (by decide)⟩ ?_ (HpLe.refl _) ?_
    · simp (maxSteps := 4000000) only [go_sem, ↓op_move, ↓op_assign, ↓op_pick, ↓op_alloc, ↓op_box, ↓op_build, ↓op_buildSlice, ↓op_load, ↓op_store, ↓op_nilCheck, ↓op_bin, ↓op_un, ↓op_convert, ↓op_makeFunc, ↓op_makeSlice, ↓op_slice, ↓op_fieldAddr, ↓op_field, ↓op_indexAddr, ↓op_index, ↓op_extract, ↓op_range, ↓op_next, ↓op_call, ↓op_builtin, ↓g_tt, ↓g_ff, ↓g_tf, ↓g_ft, ↓g_tnt, ↓g_tnf, ↓g_fnt, ↓g_fnf]
    · intro ck i hck hI
      obtain ⟨hi, i1, i2, i3, i4⟩ := hI
      generalize hq0 : exC _ _ _ _ _ = gg
      have hi4 : i = 0 ∨ i = 1 ∨ i = 2 ∨ i = 3 ∨ i = 4 := by omega
      rcases hi4 with rfl | rfl | rfl | rfl | rfl
      · rw [← hq0]
        clear hq0
        simp (maxSteps := 4000000) only [go_sem, ↓op_move, ↓op_assign, ↓op_pick, ↓op_alloc, ↓op_box, ↓op_build, ↓op_buildSlice, ↓op_load, ↓op_store, ↓op_nilCheck, ↓op_bin, ↓op_un, ↓op_convert, ↓op_makeFunc, ↓op_makeSlice, ↓op_slice, ↓op_fieldAddr, ↓op_field, ↓op_indexAddr, ↓op_index, ↓op_extract, ↓op_range, ↓op_next, ↓op_call, ↓op_builtin, ↓g_tt, ↓g_ff, ↓g_tf, ↓g_ft, ↓g_tnt, ↓g_tnf, ↓g_fnt, ↓g_fnf]
        refine ⟨fun a1 => ⟨fun a2 => no fun q => ?_, fun a2 => ⟨inK_of (by decide) (by decide), 1, ⟨by decide, fun _ => ⟨by omega, by omega⟩, fun h => absurd h (by decide), fun h => absurd h (by decide), fun h => absurd h (by decide)⟩, by decide, rfl, HpLe.refl _⟩⟩, fun a1 => no fun q => ?_⟩
        · have := (fitsB_iff.1 q).2.2.2.2.2.2.1
          omega
        · have := (fitsB_iff.1 q).2.2.2.2.2.2.1
          omega
      · rw [← hq0]
        clear hq0
        simp (maxSteps := 4000000) only [go_sem, ↓op_move, ↓op_assign, ↓op_pick, ↓op_alloc, ↓op_box, ↓op_build, ↓op_buildSlice, ↓op_load, ↓op_store, ↓op_nilCheck, ↓op_bin, ↓op_un, ↓op_convert, ↓op_makeFunc, ↓op_makeSlice, ↓op_slice, ↓op_fieldAddr, ↓op_field, ↓op_indexAddr, ↓op_index, ↓op_extract, ↓op_range, ↓op_next, ↓op_call, ↓op_builtin, ↓g_tt, ↓g_ff, ↓g_tf, ↓g_ft, ↓g_tnt, ↓g_tnf, ↓g_fnt, ↓g_fnf]
        refine ⟨fun a1 => ⟨fun a2 => no fun q => ?_, fun a2 => ⟨inK_of (by decide) (by decide), 2, ⟨by decide, fun _ => i1 (by decide), fun _ => ⟨by omega, by omega⟩, fun h => absurd h (by decide), fun h => absurd h (by decide)⟩, by decide, rfl, HpLe.refl _⟩⟩, fun a1 => no fun q => ?_⟩
        · have := (fitsB_iff.1 q).2.2.2.2.2.2.2.1
          omega
        · have := (fitsB_iff.1 q).2.2.2.2.2.2.2.1
          omega
      · rw [← hq0]
        clear hq0
        simp (maxSteps := 4000000) only [go_sem, ↓op_move, ↓op_assign, ↓op_pick, ↓op_alloc, ↓op_box, ↓op_build, ↓op_buildSlice, ↓op_load, ↓op_store, ↓op_nilCheck, ↓op_bin, ↓op_un, ↓op_convert, ↓op_makeFunc, ↓op_makeSlice, ↓op_slice, ↓op_fieldAddr, ↓op_field, ↓op_indexAddr, ↓op_index, ↓op_extract, ↓op_range, ↓op_next, ↓op_call, ↓op_builtin, ↓g_tt, ↓g_ff, ↓g_tf, ↓g_ft, ↓g_tnt, ↓g_tnf, ↓g_fnt, ↓g_fnf]
        refine ⟨fun a1 => ⟨fun a2 => no fun q => ?_, fun a2 => ⟨inK_of (by decide) (by decide), 3, ⟨by decide, fun _ => i1 (by decide), fun _ => i2 (by decide), fun _ => ⟨by omega, by omega⟩, fun h => absurd h (by decide)⟩, by decide, rfl, HpLe.refl _⟩⟩, fun a1 => no fun q => ?_⟩
        · have := (fitsB_iff.1 q).2.2.2.2.2.2.2.2.1
          omega
        · have := (fitsB_iff.1 q).2.2.2.2.2.2.2.2.1
          omega
      · rw [← hq0]
        clear hq0
        simp (maxSteps := 4000000) only [go_sem, ↓op_move, ↓op_assign, ↓op_pick, ↓op_alloc, ↓op_box, ↓op_build, ↓op_buildSlice, ↓op_load, ↓op_store, ↓op_nilCheck, ↓op_bin, ↓op_un, ↓op_convert, ↓op_makeFunc, ↓op_makeSlice, ↓op_slice, ↓op_fieldAddr, ↓op_field, ↓op_indexAddr, ↓op_index, ↓op_extract, ↓op_range, ↓op_next, ↓op_call, ↓op_builtin, ↓g_tt, ↓g_ff, ↓g_tf, ↓g_ft, ↓g_tnt, ↓g_tnf, ↓g_fnt, ↓g_fnf]
        refine ⟨fun a1 => ⟨fun a2 => no fun q => ?_, fun a2 => ⟨inK_of (by decide) (by decide), 4, ⟨by decide, fun _ => i1 (by decide), fun _ => i2 (by decide), fun _ => i3 (by decide), fun _ => ⟨by omega, by omega⟩⟩, by decide, rfl, HpLe.refl _⟩⟩, fun a1 => no fun q => ?_⟩
        · have := (fitsB_iff.1 q).2.2.2.2.2.2.2.2.2.1
          omega
        · have := (fitsB_iff.1 q).2.2.2.2.2.2.2.2.2.1
          omega
      · rw [← hq0]
        clear hq0
        simp (maxSteps := 4000000) only [go_sem, ↓op_move, ↓op_assign, ↓op_pick, ↓op_alloc, ↓op_box, ↓op_build, ↓op_buildSlice, ↓op_load, ↓op_store, ↓op_nilCheck, ↓op_bin, ↓op_un, ↓op_convert, ↓op_makeFunc, ↓op_makeSlice, ↓op_slice, ↓op_fieldAddr, ↓op_field, ↓op_indexAddr, ↓op_index, ↓op_extract, ↓op_range, ↓op_next, ↓op_call, ↓op_builtin, ↓g_tt, ↓g_ff, ↓g_tf, ↓g_ft, ↓g_tnt, ↓g_tnf, ↓g_fnt, ↓g_fnf]
        have hzd : (-z).tdiv 2 = -(z / 2) := by rw [Int.neg_tdiv, Int.tdiv_eq_ediv_of_nonneg (by omega)]
        refine ⟨fun a1 => ⟨inK_of (by omega) (by omega), by rw [hzd]; exact inK_of (by omega) (by omega), fun a2 => ⟨fun a3 => VEnt.of_eq ?_, fun a3 => no fun q => ?_⟩, fun a2 => no fun q => ?_⟩, fun a1 => no fun q => ?_⟩
        · congr 1
          rw [Bool.eq_iff_iff, fitsB_iff]
          simp only [Bool.not_eq_true', Bool.and_eq_false_iff, decide_eq_false_iff_not, ← Classical.not_and_iff_not_or_not]
          exact ⟨fun q => ⟨g1, g2, g3, hae, g4, g5, i1 (by decide), i2 (by decide), i3 (by decide), i4 (by decide), a1, a2, a3, q⟩, fun q => q.2.2.2.2.2.2.2.2.2.2.2.2.2⟩
        · have := (fitsB_iff.1 q).2.2.2.2.2.2.2.2.2.2.2.2.1
          omega
        · have := (fitsB_iff.1 q).2.2.2.2.2.2.2.2.2.2.2.1
          omega
        · have := (fitsB_iff.1 q).2.2.2.2.2.2.2.2.2.2.1
          omega
  · have hda : decide (airE n get = 0) = false := decide_eq_false hae
    simp only [Proofs.Try.f4]
    simp (maxSteps := 4000000) only [go_sem, ↓op_move, ↓op_assign, ↓op_pick, ↓op_alloc, ↓op_box, ↓op_build, ↓op_buildSlice, ↓op_load, ↓op_store, ↓op_nilCheck, ↓op_bin, ↓op_un, ↓op_convert, ↓op_makeFunc, ↓op_makeSlice, ↓op_slice, ↓op_fieldAddr, ↓op_field, ↓op_indexAddr, ↓op_index, ↓op_extract, ↓op_range, ↓op_next, ↓op_call, ↓op_builtin, ↓g_tt, ↓g_ff, ↓g_tf, ↓g_ft, ↓g_tnt, ↓g_tnf, ↓g_fnt, ↓g_fnf, hp1, hp2, hp3, hp, hda]
    have no : ∀ {b : Bool}, ¬ b = true → VEnt (.bool false) (.bool b) := fun {b} h => VEnt.of_eq (by rw [Bool.eq_false_iff.2 h])
    exact ⟨⟨hs, hq, ht⟩, fun h1 => ⟨⟨hs, hq, ht, hsl⟩, fun h2 => ⟨hair, fun h3 => ⟨hair, no fun q => hae (fitsB_iff.1 q).2.2.2.1⟩, fun h3 => no fun q => hae (fitsB_iff.1 q).2.2.2.1⟩, fun h2 => no fun q => hae (fitsB_iff.1 q).2.2.2.1⟩, fun h1 => no fun q => hae (fitsB_iff.1 q).2.2.2.1⟩
end Go.Fly.Try
