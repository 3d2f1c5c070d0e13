/- The office: what is accepted. -/
import Derived.Test.YtfcdodaakhlppaaGreatDoorSYTOF
set_option linter.unusedSimpArgs false
set_option linter.unusedVariables false
set_option maxRecDepth 100000
set_option maxHeartbeats 4000000
namespace Go.Fly.Tryz
open Go Off

theorem oAccepts_ok : Holds Proofs.Tryz.prog G0 50 acceptC := by
  refine Holds.of_exC D50 Proofs.Tryz.func50 rfl foll (by kernel_rfl) (tab [(49, whenC), (96, formsC chkF appF), (102, containsC), (103, knownC chkF appF), (157, chkC .type), (159, chkC .house), (161, chkC .flight), (163, chkC .match_), (167, chkC .correct), (171, chkC .publish), (175, chkC .offer), (177, chkC .fund), (179, chkC .pay), (181, chkC .complain), (183, chkC .answer), (185, chkC .dismiss), (iceKey 3, iceC)]) (tab_ok ⟨oWhen_ok, oForms_ok, sContains_ok, oKnown_ok, fc1_ok, fc2_ok, fc3_ok, fc4_ok, fc5_ok, fc6_ok, fc7_ok, fc8_ok, fc9_ok, fc10_ok, fc11_ok, fc12_ok, ice_holds, trivial⟩) G0_ok fun k0 rl args hpu hpre => ?_
  unfold acceptC at hpre ⊢
  obtain ⟨h, e, rfl, hp, he⟩ := hpre
  simp only [arg_0, arg_1, cellsOf_cptr, cellsOf_agg, dec_hist, dec_ev]
  obtain ⟨k, hk, hnm, hvl, hbd, -, -, hn1, hn2⟩ := event_ok he
  have hev := hp.events
  have hct := hp.counted
  have hu := undo_iff hk
  by_cases c1 : e.num = h.events.length + 1
  rotate_left
  · have d1 : decide (e.num = (h.events.length : Int) + 1) = false := decide_eq_false c1
    simp only [Proofs.Tryz.f50]
    rw [enter_mkT (Nat.le_of_ble_eq_true rfl)]
    simp (maxSteps := 4000000) only [go_sem, ↓upXAbsY, ↓upXAbsZa, ↓upXOffC, encHist, encEv, encRows, d1, Bool.not_false]
    exact ⟨inK_of (by omega) (by omega), VEnt.of_eq (by unfold acceptE; rw [if_pos c1])⟩
  have d1 : decide (e.num = (h.events.length : Int) + 1) = true := decide_eq_true c1
  by_cases cu : k = .undo
  · subst cu
    rw [decide_eq_true rfl] at hu
    by_cases c2 : h.counted.length = 0
    · have d2 : decide ((h.counted.length : Int) = 0) = true := decide_eq_true (by omega)
      simp only [Proofs.Tryz.f50]
      rw [enter_mkT (Nat.le_of_ble_eq_true rfl)]
      simp (maxSteps := 4000000) only [go_sem, ↓upXAbsY, ↓upXAbsZa, ↓upXOffC, encHist, encEv, encRows, d1, Bool.not_true, hu, d2]
      refine ⟨inK_of (by omega) (by omega), VEnt.of_eq ?_⟩
      unfold acceptE
      rw [if_neg (by simpa using c1), hk, List.eq_nil_of_length_eq_zero c2]
      rfl
    · have d2 : decide ((h.counted.length : Int) = 0) = false := decide_eq_false (by omega)
      have dn : ((h.counted.length : Int) - 1).toNat = h.counted.length - 1 := by omega
      simp only [Proofs.Tryz.f50]
      rw [enter_mkT (Nat.le_of_ble_eq_true rfl)]
      simp (maxSteps := 4000000) only [go_sem, ↓upXAbsY, ↓upXAbsZa, ↓upXOffC, encHist, encEv, encRows, d1, Bool.not_true, hu, d2, dn]
      exact ⟨inK_of (by omega) (by omega), inK_of (by omega) (by omega), ⟨by omega, by omega⟩, ⟨2, _, _, rfl, two_ok⟩, VEnt.of_eq (congrArg (V.int .i64) ((congrArg (err · 21) (decide_eq_decide.2 (by rw [dec_final]))).trans (acceptE_undo c1 hk (by omega)).symm))⟩
  · rw [decide_eq_false cu] at hu
    have hv0 : (0 : Int) < e.vals.length := by rw [hvl]; cases k <;> first | exact absurd rfl cu | decide
    by_cases c3 : el e.vals 0 < h.now.day
    · have d3 : decide (el e.vals 0 < h.now.day) = true := decide_eq_true c3
      simp only [Proofs.Tryz.f50]
      rw [enter_mkT (Nat.le_of_ble_eq_true rfl)]
      simp (maxSteps := 4000000) only [go_sem, ↓upXAbsY, ↓upXAbsZa, ↓upXOffC, encHist, encEv, encInts, encRows, d1, Bool.not_true, hu, d3]
      exact ⟨inK_of (by omega) (by omega), hv0, VEnt.of_eq (by rw [acceptE_else c1 hk cu, if_pos c3])⟩
    · have d3 : decide (el e.vals 0 < h.now.day) = false := decide_eq_false c3
      by_cases c4 : knownL h.now e k.letters = 0
      · cases k
        · simp only [Proofs.Tryz.f50]
          rw [enter_mkT (Nat.le_of_ble_eq_true rfl)]
          simp (maxSteps := 4000000) only [go_sem, ↓upXAbsY, ↓upXAbsZa, ↓upXOffC, encHist, encEv, encInts, encRows, d1, Bool.not_true, hu, d3, hk, c4, chkF]
          exact ⟨inK_of (by omega) (by omega), hv0, ⟨h.now, .type, e, rfl, hp.rl, hnm⟩, ⟨h.now, e, rfl, hp.rl, hp.last, hnm, hvl, c4, hbd⟩, VEnt.of_eq (by rw [acceptE_else c1 hk cu, if_neg c3, if_neg (by rw [c4]; simp)])⟩
        · simp only [Proofs.Tryz.f50]
          rw [enter_mkT (Nat.le_of_ble_eq_true rfl)]
          simp (maxSteps := 4000000) only [go_sem, ↓upXAbsY, ↓upXAbsZa, ↓upXOffC, encHist, encEv, encInts, encRows, d1, Bool.not_true, hu, d3, hk, c4, chkF]
          exact ⟨inK_of (by omega) (by omega), hv0, ⟨h.now, .house, e, rfl, hp.rl, hnm⟩, ⟨h.now, e, rfl, hp.rl, hp.last, hnm, hvl, c4, hbd⟩, VEnt.of_eq (by rw [acceptE_else c1 hk cu, if_neg c3, if_neg (by rw [c4]; simp)])⟩
        · simp only [Proofs.Tryz.f50]
          rw [enter_mkT (Nat.le_of_ble_eq_true rfl)]
          simp (maxSteps := 4000000) only [go_sem, ↓upXAbsY, ↓upXAbsZa, ↓upXOffC, encHist, encEv, encInts, encRows, d1, Bool.not_true, hu, d3, hk, c4, chkF]
          exact ⟨inK_of (by omega) (by omega), hv0, ⟨h.now, .flight, e, rfl, hp.rl, hnm⟩, ⟨h.now, e, rfl, hp.rl, hp.last, hnm, hvl, c4, hbd⟩, VEnt.of_eq (by rw [acceptE_else c1 hk cu, if_neg c3, if_neg (by rw [c4]; simp)])⟩
        · simp only [Proofs.Tryz.f50]
          rw [enter_mkT (Nat.le_of_ble_eq_true rfl)]
          simp (maxSteps := 4000000) only [go_sem, ↓upXAbsY, ↓upXAbsZa, ↓upXOffC, encHist, encEv, encInts, encRows, d1, Bool.not_true, hu, d3, hk, c4, chkF]
          exact ⟨inK_of (by omega) (by omega), hv0, ⟨h.now, .match_, e, rfl, hp.rl, hnm⟩, ⟨h.now, e, rfl, hp.rl, hp.last, hnm, hvl, c4, hbd⟩, VEnt.of_eq (by rw [acceptE_else c1 hk cu, if_neg c3, if_neg (by rw [c4]; simp)])⟩
        · simp only [Proofs.Tryz.f50]
          rw [enter_mkT (Nat.le_of_ble_eq_true rfl)]
          simp (maxSteps := 4000000) only [go_sem, ↓upXAbsY, ↓upXAbsZa, ↓upXOffC, encHist, encEv, encInts, encRows, d1, Bool.not_true, hu, d3, hk, c4, chkF]
          exact ⟨inK_of (by omega) (by omega), hv0, ⟨h.now, .correct, e, rfl, hp.rl, hnm⟩, ⟨h.now, e, rfl, hp.rl, hp.last, hnm, hvl, c4, hbd⟩, VEnt.of_eq (by rw [acceptE_else c1 hk cu, if_neg c3, if_neg (by rw [c4]; simp)])⟩
        · simp only [Proofs.Tryz.f50]
          rw [enter_mkT (Nat.le_of_ble_eq_true rfl)]
          simp (maxSteps := 4000000) only [go_sem, ↓upXAbsY, ↓upXAbsZa, ↓upXOffC, encHist, encEv, encInts, encRows, d1, Bool.not_true, hu, d3, hk, c4, chkF]
          exact ⟨inK_of (by omega) (by omega), hv0, ⟨h.now, .publish, e, rfl, hp.rl, hnm⟩, ⟨h.now, e, rfl, hp.rl, hp.last, hnm, hvl, c4, hbd⟩, VEnt.of_eq (by rw [acceptE_else c1 hk cu, if_neg c3, if_neg (by rw [c4]; simp)])⟩
        · simp only [Proofs.Tryz.f50]
          rw [enter_mkT (Nat.le_of_ble_eq_true rfl)]
          simp (maxSteps := 4000000) only [go_sem, ↓upXAbsY, ↓upXAbsZa, ↓upXOffC, encHist, encEv, encInts, encRows, d1, Bool.not_true, hu, d3, hk, c4, chkF]
          exact ⟨inK_of (by omega) (by omega), hv0, ⟨h.now, .offer, e, rfl, hp.rl, hnm⟩, ⟨h.now, e, rfl, hp.rl, hp.last, hnm, hvl, c4, hbd⟩, VEnt.of_eq (by rw [acceptE_else c1 hk cu, if_neg c3, if_neg (by rw [c4]; simp)])⟩
        · simp only [Proofs.Tryz.f50]
          rw [enter_mkT (Nat.le_of_ble_eq_true rfl)]
          simp (maxSteps := 4000000) only [go_sem, ↓upXAbsY, ↓upXAbsZa, ↓upXOffC, encHist, encEv, encInts, encRows, d1, Bool.not_true, hu, d3, hk, c4, chkF]
          exact ⟨inK_of (by omega) (by omega), hv0, ⟨h.now, .fund, e, rfl, hp.rl, hnm⟩, ⟨h.now, e, rfl, hp.rl, hp.last, hnm, hvl, c4, hbd⟩, VEnt.of_eq (by rw [acceptE_else c1 hk cu, if_neg c3, if_neg (by rw [c4]; simp)])⟩
        · simp only [Proofs.Tryz.f50]
          rw [enter_mkT (Nat.le_of_ble_eq_true rfl)]
          simp (maxSteps := 4000000) only [go_sem, ↓upXAbsY, ↓upXAbsZa, ↓upXOffC, encHist, encEv, encInts, encRows, d1, Bool.not_true, hu, d3, hk, c4, chkF]
          exact ⟨inK_of (by omega) (by omega), hv0, ⟨h.now, .pay, e, rfl, hp.rl, hnm⟩, ⟨h.now, e, rfl, hp.rl, hp.last, hnm, hvl, c4, hbd⟩, VEnt.of_eq (by rw [acceptE_else c1 hk cu, if_neg c3, if_neg (by rw [c4]; simp)])⟩
        · simp only [Proofs.Tryz.f50]
          rw [enter_mkT (Nat.le_of_ble_eq_true rfl)]
          simp (maxSteps := 4000000) only [go_sem, ↓upXAbsY, ↓upXAbsZa, ↓upXOffC, encHist, encEv, encInts, encRows, d1, Bool.not_true, hu, d3, hk, c4, chkF]
          exact ⟨inK_of (by omega) (by omega), hv0, ⟨h.now, .complain, e, rfl, hp.rl, hnm⟩, ⟨h.now, e, rfl, hp.rl, hp.last, hnm, hvl, c4, hbd⟩, VEnt.of_eq (by rw [acceptE_else c1 hk cu, if_neg c3, if_neg (by rw [c4]; simp)])⟩
        · simp only [Proofs.Tryz.f50]
          rw [enter_mkT (Nat.le_of_ble_eq_true rfl)]
          simp (maxSteps := 4000000) only [go_sem, ↓upXAbsY, ↓upXAbsZa, ↓upXOffC, encHist, encEv, encInts, encRows, d1, Bool.not_true, hu, d3, hk, c4, chkF]
          exact ⟨inK_of (by omega) (by omega), hv0, ⟨h.now, .answer, e, rfl, hp.rl, hnm⟩, ⟨h.now, e, rfl, hp.rl, hp.last, hnm, hvl, c4, hbd⟩, VEnt.of_eq (by rw [acceptE_else c1 hk cu, if_neg c3, if_neg (by rw [c4]; simp)])⟩
        · simp only [Proofs.Tryz.f50]
          rw [enter_mkT (Nat.le_of_ble_eq_true rfl)]
          simp (maxSteps := 4000000) only [go_sem, ↓upXAbsY, ↓upXAbsZa, ↓upXOffC, encHist, encEv, encInts, encRows, d1, Bool.not_true, hu, d3, hk, c4, chkF]
          exact ⟨inK_of (by omega) (by omega), hv0, ⟨h.now, .dismiss, e, rfl, hp.rl, hnm⟩, ⟨h.now, e, rfl, hp.rl, hp.last, hnm, hvl, c4, hbd⟩, VEnt.of_eq (by rw [acceptE_else c1 hk cu, if_neg c3, if_neg (by rw [c4]; simp)])⟩
        · exact absurd rfl cu
      · have d4 : decide (knownL h.now e k.letters = 0) = false := decide_eq_false c4
        simp only [Proofs.Tryz.f50]
        rw [enter_mkT (Nat.le_of_ble_eq_true rfl)]
        simp (maxSteps := 4000000) only [go_sem, ↓upXAbsY, ↓upXAbsZa, ↓upXOffC, encHist, encEv, encInts, encRows, d1, Bool.not_true, hu, d3, hk, d4, Bool.not_false]
        exact ⟨inK_of (by omega) (by omega), hv0, ⟨h.now, k, e, rfl, hp.rl, hnm⟩, VEnt.of_eq (by rw [acceptE_else c1 hk cu, if_neg c3, if_pos c4])⟩
end Go.Fly.Tryz
