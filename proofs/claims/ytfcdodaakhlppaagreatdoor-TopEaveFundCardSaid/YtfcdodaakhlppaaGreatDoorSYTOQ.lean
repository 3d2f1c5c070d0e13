/- The office: its questions. -/
import Derived.Test.YtfcdodaakhlppaaGreatDoorSYTOP
import Derived.Test.YtfcdodaakhlppaaGreatDoorAU
set_option linter.unusedSimpArgs false
set_option linter.unusedVariables false
set_option maxRecDepth 100000
set_option maxHeartbeats 1000000
namespace Go.Fly.Tryz
open Go Off

theorem oAcceptsQ_ok : Holds Proofs.Tryz.prog G0 12 acceptsC := by
  refine Holds.of_exC D12 Proofs.Tryz.func12 rfl foll (by kernel_rfl) (tab [(46, replC), (47, firstC), (48, eventC), (49, whenC), (50, acceptC), (iceKey 3, iceC)]) (tab_ok ⟨oReplayed_ok, oFirst_ok, oEvent_ok, oWhen_ok, oAccepts_ok, ice_holds, trivial⟩) G0_ok fun k0 rl args hpu hpre => ?_
  unfold acceptsC at hpre ⊢
  obtain ⟨l, e, rfl, hl, hE, he⟩ := hpre
  simp only [arg_0, arg_1, cellsOf_agg, dec_evs, dec_ev]
  by_cases c1 : 1000 ≤ l.length
  · have d1 : decide ((1000 : Int) ≤ (l.length : Int)) = true := decide_eq_true (by omega)
    have d2 : decide (1000 ≤ l.length) = true := decide_eq_true (by omega)
    by_cases w : firstL [(replayed levelE l).2.2, eventE e, err true 5] = 0
    · have dw : decide (firstL [(replayed levelE l).2.2, eventE e, err true 5] = 0) = true := decide_eq_true w
      simp only [Proofs.Tryz.f12]
      rw [enter_mkT (Nat.le_of_ble_eq_true rfl)]
      simp (maxSteps := 4000000) only [go_sem, ↓upXAbsY, ↓upXAbsZa, ↓upXOffC, encRows, encEv, encStrs, encInts, d1, dw, Bool.not_true]
      refine ⟨⟨l, rfl, hl, hE⟩, ⟨e, rfl, he⟩, ⟨(replayed levelE l).1, e, rfl, replayed_pre l, ?_⟩, VEnt.of_eq ?_⟩
      · rw [firstL_zero] at w; exact w _ (by simp)
      · unfold acceptsE; simp only [d2, w]; rfl
    · have dw : decide (firstL [(replayed levelE l).2.2, eventE e, err true 5] = 0) = false := decide_eq_false w
      simp only [Proofs.Tryz.f12]
      rw [enter_mkT (Nat.le_of_ble_eq_true rfl)]
      simp (maxSteps := 4000000) only [go_sem, ↓upXAbsY, ↓upXAbsZa, ↓upXOffC, encRows, encEv, encStrs, encInts, d1, dw, Bool.not_false]
      refine ⟨⟨l, rfl, hl, hE⟩, ⟨e, rfl, he⟩, VEnt.of_eq ?_⟩
      unfold acceptsE; simp only [d2]; rw [if_pos w]
  · have d1 : decide ((1000 : Int) ≤ (l.length : Int)) = false := decide_eq_false (by omega)
    have d2 : decide (1000 ≤ l.length) = false := decide_eq_false (by omega)
    by_cases w : firstL [(replayed levelE l).2.2, eventE e, err false 5] = 0
    · have dw : decide (firstL [(replayed levelE l).2.2, eventE e, err false 5] = 0) = true := decide_eq_true w
      simp only [Proofs.Tryz.f12]
      rw [enter_mkT (Nat.le_of_ble_eq_true rfl)]
      simp (maxSteps := 4000000) only [go_sem, ↓upXAbsY, ↓upXAbsZa, ↓upXOffC, encRows, encEv, encStrs, encInts, d1, dw, Bool.not_true]
      refine ⟨⟨l, rfl, hl, hE⟩, ⟨e, rfl, he⟩, ⟨(replayed levelE l).1, e, rfl, replayed_pre l, ?_⟩, VEnt.of_eq ?_⟩
      · rw [firstL_zero] at w; exact w _ (by simp)
      · unfold acceptsE; simp only [d2, w]; rfl
    · have dw : decide (firstL [(replayed levelE l).2.2, eventE e, err false 5] = 0) = false := decide_eq_false w
      simp only [Proofs.Tryz.f12]
      rw [enter_mkT (Nat.le_of_ble_eq_true rfl)]
      simp (maxSteps := 4000000) only [go_sem, ↓upXAbsY, ↓upXAbsZa, ↓upXOffC, encRows, encEv, encStrs, encInts, d1, dw, Bool.not_false]
      refine ⟨⟨l, rfl, hl, hE⟩, ⟨e, rfl, he⟩, VEnt.of_eq ?_⟩
      unfold acceptsE; simp only [d2]; rw [if_pos w]


theorem oReplayQ_ok : Holds Proofs.Tryz.prog G0 14 replayC := by
  refine Holds.of_exC D14 Proofs.Tryz.func14 rfl foll (by kernel_rfl) (tab [(46, replC)]) (tab_ok ⟨oReplayed_ok, trivial⟩) G0_ok fun k0 rl args hpu hpre => ?_
  unfold replayC at hpre ⊢
  obtain ⟨l, rfl, hl, hE⟩ := hpre
  simp only [arg_0, dec_evs]
  by_cases w : (replayed levelE l).2.2 = 0
  · have dw : decide ((replayed levelE l).2.2 = 0) = true := decide_eq_true w
    simp only [Proofs.Tryz.f14]
    rw [enter_mkT (Nat.le_of_ble_eq_true rfl)]
    simp (maxSteps := 4000000) only [go_sem, ↓upXAbsY, ↓upXAbsZa, ↓upXOffC, encRows, encEv, encStrs, encInts, dw, Bool.not_true, encHist, encReg]
    refine ⟨⟨l, rfl, hl, hE⟩, VEnt.of_eq ?_⟩
    unfold replayE
    rw [if_neg (fun q => q w)]
    rfl
  · have dw : decide ((replayed levelE l).2.2 = 0) = false := decide_eq_false w
    simp only [Proofs.Tryz.f14]
    rw [enter_mkT (Nat.le_of_ble_eq_true rfl)]
    simp (maxSteps := 4000000) only [go_sem, ↓upXAbsY, ↓upXAbsZa, ↓upXOffC, encRows, encEv, encStrs, encInts, dw, Bool.not_false, encHist]
    refine ⟨⟨l, rfl, hl, hE⟩, ?_⟩
    unfold replayE
    rw [if_pos w]
    exact VEnt.tup ⟨VEnt.agg ⟨VEnt.refl _, VEnt.nils _ _, VEnt.nils _ _, VEnt.nils _ _, VEnt.nils _ _, VEnt.nils _ _, VEnt.nils _ _, VEnt.refl _, trivial⟩, VEnt.refl _, VEnt.refl _, trivial⟩
end Go.Fly.Tryz
