/- Part of a proof: an evaluator of the model's code by abstract values, and plain laws for it. No conditions. -/
import Derived.Test.YtfcdodaakhlppaaGreatDoorSYTPE
import Derived.Test.YtfcdodaakhlppaaGreatDoorAW
set_option linter.unusedSimpArgs false
set_option linter.unusedVariables false
section
/- Journals that a law writes, their rows written in any way: an event is added, a list is copied; what is accepted. -/
set_option maxRecDepth 100000
set_option maxHeartbeats 1000000
namespace Go.Fly.Tryz
open Go Off
end Go.Fly.Tryz
end
section
/- Homes and zones: levels, zones, who is eligible. -/
set_option maxRecDepth 100000
set_option maxHeartbeats 1000000
namespace Go.Fly.Tryz
open Go Off

theorem hLevel_ok : Holds Proofs.Tryz.prog G0 62 lvl1C := by
  refine Holds.of_exC D62 Proofs.Tryz.func62 rfl foll (by kernel_rfl) (tab [(106, level2C)]) (tab_ok ⟨dLevel2_ok, trivial⟩) G0_ok fun k0 rl args hpu hpre => ?_
  unfold lvl1C at hpre ⊢
  split at hpre
  rotate_left
  · exact hpre.elim
  simp only [Proofs.Tryz.f62]
  simp (maxSteps := 4000000) only [go_sem, ↓upXAbsY, ↓upXAbsZa, ↓upXOffC]
  exact ⟨hpre, VEnt.of_eq rfl⟩

theorem hLevels_ok : Holds Proofs.Tryz.prog G0 20 levelsC := by
  refine Holds.of_exC D20 Proofs.Tryz.func20 rfl foll (by kernel_rfl) (tab [(59, chkHomeC), (61, homeInC), (62, lvl1C), (iceKey 1, iceC)]) (tab_ok ⟨hCheck_ok, hIn_ok, hLevel_ok, ice_holds, trivial⟩) G0_ok fun k0 rl args hpu hpre => ?_
  unfold levelsC at hpre ⊢
  obtain ⟨s, f, rfl, hs, hf⟩ := hpre
  simp only [arg_0, hSum_home]
  have hb := sN_bd hf (Nat.le_refl 8)
  simp only [Proofs.Tryz.f20]
  rw [enter_mkT (Nat.le_of_ble_eq_true rfl)]
  simp (maxSteps := 4000000) only [go_sem, ↓upXAbsY, ↓upXAbsZa, ↓upXOffC, homeV]
  exact ⟨⟨s, f, rfl, hs, hf⟩, ⟨s, f, rfl, hf⟩, by omega, by omega, VEnt.of_eq rfl⟩

theorem hEnergy_ok : Holds Proofs.Tryz.prog G0 68 (int1C (fun n => rng n 0 10000000000000)) := by
  refine Holds.of_exC D68 Proofs.Tryz.func68 rfl foll (by kernel_rfl) (tab [(52, withinC)]) (tab_ok ⟨hWithin_ok, trivial⟩) G0_ok fun k0 rl args hpu hpre => ?_
  unfold int1C at hpre ⊢
  split at hpre
  rotate_left
  · exact hpre.elim
  simp only [Proofs.Tryz.f68]
  simp (maxSteps := 4000000) only [go_sem, ↓upXAbsY, ↓upXAbsZa, ↓upXOffC]
  exact VEnt.of_eq rfl

theorem hZones_ok : Holds Proofs.Tryz.prog G0 63 chkZonesC := by
  refine Holds.of_exC D63 Proofs.Tryz.func63 rfl foll (by kernel_rfl) (tab [(51, firstC), (52, withinC), (53, whenC), (54, nameC), (68, int1C (fun n => rng n 0 10000000000000))]) (tab_ok ⟨hFirst_ok, hWithin_ok, hWhen_ok, dName_ok, hEnergy_ok, trivial⟩) G0_ok fun k0 rl args hpu hpre => ?_
  unfold chkZonesC at hpre ⊢
  obtain ⟨get, a, rfl, hz⟩ := hpre
  have hpu := hz.pu
  have hf2 : decide (firstL [err false 12, err false 5] = 0) = true := rfl
  simp only [Proofs.Tryz.f63]
  rw [enter_mkT (Nat.le_of_ble_eq_true rfl)]
  simp (maxSteps := 4000000) only [go_sem, ↓upXAbsY, ↓upXAbsZa, ↓upXOffC, hpu, hf2, Bool.not_true]
  refine ⟨fun L o h => (by rw [updH_ne (by simp)] at h; cases h), fun L => ?_⟩
  refine RestT.loopF (β := Nat) [(2, 2), (5, 5), (7, 8), (25, 63)] (fun i => [(5, .int .i64 (znLast a i)), (25, .int .i64 i)]) (fun i => updH (fun _ => none) (0, L) (.raw (.map (znEs i) i))) (fun i => i ≤ 2) (fun i => 2 - i) 0 (Nat.zero_le _) ?_ ?_ ?_
  · simp (maxSteps := 4000000) only [go_sem, ↓upXAbsY, ↓upXAbsZa, ↓upXOffC]
    exact rfl
  · exact HpLe.upd HpLe.none ⟨_, by simp [updH, znEs], ObjLe.refl _⟩
  · intro ck i hck hi
    generalize hq0 : exC _ _ _ _ _ = gg
    have hlow := hz.low
    have hhigh := hz.high
    have hbd := hz.bd
    have hl2 : sLow.length ≤ 9223372036854775807 := by decide
    have hh2 : sHigh.length ≤ 9223372036854775807 := by decide
    have hi : i = 0 ∨ i = 1 ∨ i = 2 := by have : i ≤ 2 := hi; omega
    rcases hi with rfl | rfl | rfl
    · rw [← hq0]
      clear hq0
      have e1 : rng 60 0 120 = 0 := rfl
      have e2 : rng 50 0 100 = 0 := rfl
      have e3 : rng 0 0 10000000000000 = 0 := rfl
      have e4 : firstL [0, 0, 0, 0, 0, 0] = 0 := rfl
      simp (maxSteps := 4000000) only [go_sem, ↓upXAbsY, ↓upXAbsZa, ↓upXOffC, hlow, zn_find0, low_name, znLast, e1, e2, e3, e4]
      exact ⟨hl2, fun h => absurd h (by decide), fun _ => ⟨inK_of (by decide) (by decide), by omega, 1, by decide, by decide, ⟨rfl, rfl⟩, HpLe.upd HpLe.none ⟨_, updH_same _ _ _, ObjLe.refl _⟩⟩⟩
    · rw [← hq0]
      clear hq0
      have e1 : rng a 0 120 = 0 := rng_zero.2 (by omega)
      have e2 : rng 80 0 100 = 0 := rfl
      have e3 : rng 0 0 10000000000000 = 0 := rfl
      have e4 : firstL [0, 0, 0, 0, 0, 0] = 0 := rfl
      have e5 : decide (a ≤ 60) = false := decide_eq_false (by omega)
      simp (maxSteps := 4000000) only [go_sem, ↓upXAbsY, ↓upXAbsZa, ↓upXOffC, hhigh, zn_find1, high_name, znLast, e1, e2, e3, e4, e5]
      exact ⟨hh2, fun h => absurd h (by decide), fun _ => ⟨inK_of (by decide) (by decide), by omega, 2, by decide, by decide, ⟨rfl, rfl⟩, HpLe.upd HpLe.none ⟨_, updH_same _ _ _, ObjLe.refl _⟩⟩⟩
    · rw [← hq0]
      clear hq0
      simp (maxSteps := 4000000) only [go_sem, ↓upXAbsY, ↓upXAbsZa, ↓upXOffC]
      exact VEnt.refl _

theorem hZone_ok : Holds Proofs.Tryz.prog G0 69 zoneC := by
  refine Holds.of_exC D69 Proofs.Tryz.func69 rfl foll (by kernel_rfl) (tab [(62, lvl1C)]) (tab_ok ⟨hLevel_ok, trivial⟩) G0_ok fun k0 rl args hpu hpre => ?_
  unfold zoneC at hpre ⊢
  obtain ⟨get, a, n, rfl, hz, hn0, hn1⟩ := hpre
  simp only [arg_0, arg_1, intOf_int, hz.at]
  have hpu := hz.pu
  simp only [Proofs.Tryz.f69]
  rw [enter_mkT (Nat.le_of_ble_eq_true rfl)]
  simp (maxSteps := 4000000) only [go_sem, ↓upXAbsY, ↓upXAbsZa, ↓upXOffC, hpu]
  have hlow := hz.low
  have hhigh := hz.high
  have hbd := hz.bd
  refine RestT.loopF (β := Nat) [(5, 7), (10, 21)] (fun i => [(5, .int .i64 ((i : Int) - 1)), (10, .int .i64 i)]) (fun i => fun _ => none) (fun i => i ≤ 2 ∧ (1 ≤ i → 60 ≤ levelE n) ∧ (2 ≤ i → a ≤ levelE n)) (fun i => 2 - i) 0 ⟨Nat.zero_le _, fun q => by omega, fun q => by omega⟩ ?_ HpLe.none ?_
  · simp (maxSteps := 4000000) only [go_sem, ↓upXAbsY, ↓upXAbsZa, ↓upXOffC]
    try exact ⟨rfl, rfl⟩
  · intro ck i hck hI
    obtain ⟨hi, hi1, hi2⟩ := hI
    generalize hq0 : exC _ _ _ _ _ = gg
    have hi : i = 0 ∨ i = 1 ∨ i = 2 := by omega
    rcases hi with rfl | rfl | rfl
    · rw [← hq0]
      clear hq0
      simp (maxSteps := 4000000) only [go_sem, ↓upXAbsY, ↓upXAbsZa, ↓upXOffC, hlow]
      exact ⟨⟨hn0, hn1⟩, fun h => VEnt.of_eq (by unfold znE; rw [if_pos h]), fun h => ⟨inK_of (by decide) (by decide), 1, ⟨by decide, fun _ => by omega, fun q => absurd q (by decide)⟩, by decide, ⟨rfl, rfl⟩, HpLe.none⟩⟩
    · rw [← hq0]
      clear hq0
      simp (maxSteps := 4000000) only [go_sem, ↓upXAbsY, ↓upXAbsZa, ↓upXOffC, hhigh]
      have h60 := hi1 (by decide)
      exact ⟨⟨hn0, hn1⟩, fun h => VEnt.of_eq (by unfold znE; rw [if_neg (by omega), if_pos h]), fun h => ⟨inK_of (by decide) (by decide), 2, ⟨by decide, fun _ => h60, fun _ => by omega⟩, by decide, ⟨rfl, rfl⟩, HpLe.none⟩⟩
    · rw [← hq0]
      clear hq0
      simp (maxSteps := 4000000) only [go_sem, ↓upXAbsY, ↓upXAbsZa, ↓upXOffC]
      have h60 := hi1 (by decide)
      have h2 := hi2 (by decide)
      exact VEnt.of_eq (by unfold znE; rw [if_neg (by omega), if_neg (by omega)])

theorem hZoneOf_ok : Holds Proofs.Tryz.prog G0 25 zoneOfC := by
  refine Holds.of_exC D25 Proofs.Tryz.func25 rfl foll (by kernel_rfl) (tab [(51, firstC), (63, chkZonesC), (68, int1C (fun n => rng n 0 10000000000000)), (69, zoneC)]) (tab_ok ⟨hFirst_ok, hZones_ok, hEnergy_ok, hZone_ok, trivial⟩) G0_ok fun k0 rl args hpu hpre => ?_
  unfold zoneOfC at hpre ⊢
  obtain ⟨get, a, n, rfl, hz, hn0, hn1⟩ := hpre
  simp only [arg_0, arg_1, intOf_int, hz.at]
  have hpu := hz.pu
  have hat := hz.at
  have he : rng n 0 10000000000000 = 0 := rng_zero.2 ⟨hn0, hn1⟩
  have hf0 : decide (firstL [0, 0] = 0) = true := rfl
  simp only [Proofs.Tryz.f25]
  rw [enter_mkT (Nat.le_of_ble_eq_true rfl)]
  simp (maxSteps := 4000000) only [go_sem, ↓upXAbsY, ↓upXAbsZa, ↓upXOffC, hpu, hat, he, hf0]
  exact ⟨⟨get, a, rfl, hz⟩, ⟨get, a, n, rfl, hz, hn0, hn1⟩, fun h => VEnt.of_eq (by rw [if_pos h, if_pos h]), fun h => VEnt.of_eq (by rw [if_neg h, if_neg h])⟩

theorem hElig_ok : Holds Proofs.Tryz.prog G0 64 eligHC := by
  refine Holds.of_exC D64 Proofs.Tryz.func64 rfl foll (by kernel_rfl) (tab [(60, homeSumC), (61, homeInC), (69, zoneC), (iceKey 2, iceC)]) (tab_ok ⟨hOut_ok, hIn_ok, hZone_ok, ice_holds, trivial⟩) G0_ok fun k0 rl args hpu hpre => ?_
  unfold eligHC at hpre ⊢
  obtain ⟨s, f, get, a, rfl, hz, hf⟩ := hpre
  simp only [arg_0, arg_1, hSum_home, hz.at]
  have hpu := hz.pu
  have hat := hz.at
  have hb := sN_bd hf (Nat.le_refl 8)
  have hlow := hz.low
  have hhigh := hz.high
  have pre1 : ∃ s' f', [V.agg [.str s, .int .i64 0, .sl 1 25 fun _ => hmRow f]] = [V.agg [.str s', .int .i64 0, .sl 1 25 fun _ => hmRow f']] ∧ OutOk f' := ⟨s, f, rfl, hf⟩
  have pre2 : ∃ get' a' n, [V.sl 2 4 get, .int .i64 (sN f 8)] = [V.sl 2 4 get', .int .i64 n] ∧ ZnOk get' a' ∧ 0 ≤ n ∧ n ≤ 10000000000000 := ⟨get, a, _, rfl, hz, by omega, by omega⟩
  rcases znE_3 a (levelE (sN f 8)) with h3 | h3 | h3
  · simp only [Proofs.Tryz.f64]
    rw [enter_mkT (Nat.le_of_ble_eq_true rfl)]
    simp (maxSteps := 4000000) only [go_sem, ↓upXAbsY, ↓upXAbsZa, ↓upXOffC, homeV, hpu, hat, h3]
    exact ⟨pre1, pre2, VEnt.refl _⟩
  · simp only [Proofs.Tryz.f64]
    rw [enter_mkT (Nat.le_of_ble_eq_true rfl)]
    simp (maxSteps := 4000000) only [go_sem, ↓upXAbsY, ↓upXAbsZa, ↓upXOffC, homeV, hpu, hat, h3, hlow]
    exact ⟨pre1, pre2, pre1, VEnt.refl _⟩
  · simp only [Proofs.Tryz.f64]
    rw [enter_mkT (Nat.le_of_ble_eq_true rfl)]
    simp (maxSteps := 4000000) only [go_sem, ↓upXAbsY, ↓upXAbsZa, ↓upXOffC, homeV, hpu, hat, h3, hhigh]
    exact ⟨pre1, pre2, pre1, VEnt.refl _⟩

theorem hEligible_ok : Holds Proofs.Tryz.prog G0 22 eligibleHC := by
  refine Holds.of_exC D22 Proofs.Tryz.func22 rfl foll (by kernel_rfl) (tab [(51, firstC), (59, chkHomeC), (63, chkZonesC), (64, eligHC), (iceKey 3, iceC)]) (tab_ok ⟨hFirst_ok, hCheck_ok, hZones_ok, hElig_ok, ice_holds, trivial⟩) G0_ok fun k0 rl args hpu hpre => ?_
  unfold eligibleHC at hpre ⊢
  obtain ⟨s, f, get, a, rfl, hz, hf, hs⟩ := hpre
  simp only [arg_0, arg_1, hSum_home, hz.at]
  have hpu := hz.pu
  have hat := hz.at
  have hf0 : decide (firstL [0, 0] = 0) = true := rfl
  simp only [Proofs.Tryz.f22]
  rw [enter_mkT (Nat.le_of_ble_eq_true rfl)]
  simp (maxSteps := 4000000) only [go_sem, ↓upXAbsY, ↓upXAbsZa, ↓upXOffC, homeV, hpu, hat, hf0]
  exact ⟨⟨get, a, rfl, hz⟩, ⟨s, f, rfl, hs, hf⟩, ⟨s, f, get, a, rfl, hz, hf⟩, VEnt.refl _⟩
end Go.Fly.Tryz
end
section
/- The office: chains that are asked, checked; who is eligible; what was published. -/
set_option maxRecDepth 100000
set_option maxHeartbeats 1000000
namespace Go.Fly.Tryz
open Go Off

theorem oChainQ_ok : Holds Proofs.Tryz.prog G0 16 chainQC := by
  refine Holds.of_exC D16 Proofs.Tryz.func16 rfl foll (by kernel_rfl) (tab [(55, askC), (56, chainC), (57, findC 104 encHo Reg.house)]) (tab_ok ⟨oAsked_ok, oChain_ok, oHouse_ok, trivial⟩) G0_ok fun k0 rl args hpu hpre => ?_
  unfold chainQC at hpre ⊢
  obtain ⟨l, s, rfl, hl, hE⟩ := hpre
  simp only [arg_0, arg_1, strOf_str, dec_evs]
  have hg := replayed_good l
  by_cases w : askE l 104 s = 0
  · have dw : decide (askE l 104 s = 0) = true := decide_eq_true w
    obtain ⟨w1, w2⟩ := ask_zero w
    have hco := hg.ok.chain _ (house_mem w2)
    simp only [Proofs.Tryz.f16]
    rw [enter_mkT (Nat.le_of_ble_eq_true rfl)]
    simp (maxSteps := 4000000) only [go_sem, ↓upXAbsY, ↓upXAbsZa, ↓upXOffC, dw, Bool.not_true, encHist, encHo]
    refine ⟨⟨l, _, s, rfl, hl, hE⟩, ⟨_, s, rfl, hg.rl, w2⟩, ⟨_, _, rfl, hco⟩, VEnt.of_eq ?_⟩
    unfold chainE
    rw [if_neg (fun q => q w)]
  · have dw : decide (askE l 104 s = 0) = false := decide_eq_false w
    simp only [Proofs.Tryz.f16]
    rw [enter_mkT (Nat.le_of_ble_eq_true rfl)]
    simp (maxSteps := 4000000) only [go_sem, ↓upXAbsY, ↓upXAbsZa, ↓upXOffC, dw, Bool.not_false, encHist]
    refine ⟨⟨l, _, s, rfl, hl, hE⟩, ?_⟩
    unfold chainE
    rw [if_pos w]
    exact VEnt.tup ⟨VEnt.nils _ _, VEnt.refl _, trivial⟩

theorem oCheckQ_ok : Holds Proofs.Tryz.prog G0 21 checkQC := by
  refine Holds.of_exC D21 Proofs.Tryz.func21 rfl foll (by kernel_rfl) (tab [(49, whenC), (55, askC), (56, chainC), (57, findC 104 encHo Reg.house), (58, numberC)]) (tab_ok ⟨oWhen_ok, oAsked_ok, oChain_ok, oHouse_ok, oNumber_ok, trivial⟩) G0_ok fun k0 rl args hpu hpre => ?_
  unfold checkQC at hpre ⊢
  obtain ⟨l, s, c, lv, rfl, hl, hE, hc⟩ := hpre
  simp only [arg_0, arg_1, arg_2, arg_3, strOf_str, intOf_int, dec_evs, dec_its]
  have hg := replayed_good l
  by_cases w : askE l 104 s = 0
  · have dw : decide (askE l 104 s = 0) = true := decide_eq_true w
    obtain ⟨w1, w2⟩ := ask_zero w
    have hco := hg.ok.chain _ (house_mem w2)
    have hits := its_ok hco
    have hcr : ∃ cr, cr = (replayed levelE l).1.now.chain ((replayed levelE l).1.now.house s).share := ⟨_, rfl⟩
    obtain ⟨cr, hcr⟩ := hcr
    rw [← hcr] at hits
    have h64 := hits.1
    simp only [Proofs.Tryz.f21]
    rw [enter_mkT (Nat.le_of_ble_eq_true rfl)]
    simp (maxSteps := 4000000) only [go_sem, ↓upXAbsY, ↓upXAbsZa, ↓upXOffC, dw, Bool.not_true, encHist, encHo, encRows, encIt, ← hcr]
    refine ⟨⟨l, _, s, rfl, hl, hE⟩, ⟨_, s, rfl, hg.rl, w2⟩, ⟨_, _, rfl, hco⟩, ?_⟩
    have hmx : max (c.length : Int) (cr.length : Int) = ((max c.length cr.length : Nat) : Int) := by omega
    have hck : chkChE l s c lv = match diffAt c cr 0 (max c.length cr.length) with
      | some i => ((i : Int), 19)
      | none => ((cr.length : Int), err (!decide (levelE (sumOf cr) = lv)) 24) := by
      unfold chkChE
      rw [if_neg (fun q => q w), hcr]
      rfl
    obtain ⟨N, hN⟩ : ∃ N, N = max c.length cr.length := ⟨_, rfl⟩
    rw [← hN] at hck hmx
    refine RestT.loopF (β := Nat) [(8, 9), (13, 13), (41, 66)] (fun i => [(41, .int .i64 i)]) (fun _ => fun _ => none) (fun i => i ≤ N ∧ diffAt c cr 0 N = diffAt c cr i (N - i)) (fun i => N - i) 0 ⟨Nat.zero_le _, rfl⟩ ?_ HpLe.none ?_
    · simp (maxSteps := 4000000) only [go_sem, ↓upXAbsY, ↓upXAbsZa, ↓upXOffC, hmx]
      try exact rfl
    · intro ck i hck0 hI
      obtain ⟨hi, hdf⟩ := hI
      generalize hq0 : exC _ _ _ _ _ = gg
      by_cases hlt : i < N
      · have hd : decide ((i : Int) < (N : Int)) = true := by simp; omega
        rw [diff_step hlt] at hdf
        by_cases q1 : c.length ≤ i
        · have d1 : decide ((c.length : Int) ≤ (i : Int)) = true := decide_eq_true (by omega)
          rw [← hq0]
          clear hq0
          simp (maxSteps := 4000000) only [go_sem, ↓upXAbsY, ↓upXAbsZa, ↓upXOffC, hmx, hd, d1]
          rw [if_pos (.inl q1)] at hdf
          exact VEnt.of_eq (by rw [hck, hdf])
        · have d1 : decide ((c.length : Int) ≤ (i : Int)) = false := decide_eq_false (by omega)
          by_cases q2 : cr.length ≤ i
          · have d2 : decide ((cr.length : Int) ≤ (i : Int)) = true := decide_eq_true (by omega)
            rw [← hq0]
            clear hq0
            simp (maxSteps := 4000000) only [go_sem, ↓upXAbsY, ↓upXAbsZa, ↓upXOffC, hmx, hd, d1, d2]
            rw [if_pos (.inr (.inl q2))] at hdf
            exact VEnt.of_eq (by rw [hck, hdf])
          · have d2 : decide ((cr.length : Int) ≤ (i : Int)) = false := decide_eq_false (by omega)
            rw [← hq0]
            clear hq0
            simp (maxSteps := 4000000) only [go_sem, ↓upXAbsY, ↓upXAbsZa, ↓upXOffC, hmx, hd, d1, d2]
            refine ⟨⟨by omega, by omega⟩, ⟨by omega, by omega⟩, fun h => ?_, fun h => ⟨inK_of (by omega) (by omega), by omega, i + 1, ⟨hlt, ?_⟩, by omega, rfl, HpLe.none⟩⟩
            · have hne : el c i ≠ el cr i := fun e => by rw [e] at h; simp at h
              rw [if_pos (.inr (.inr hne))] at hdf
              exact VEnt.of_eq (by rw [hck, hdf])
            · have he : el c i = el cr i := by
                simp only [Bool.not_eq_false', Bool.and_eq_true, decide_eq_true_eq] at h
                exact Prod.ext h.1 h.2
              rw [if_neg (fun q => q.elim q1 fun q => q.elim q2 fun q => q he)] at hdf
              exact hdf
      · have hd : decide ((i : Int) < (N : Int)) = false := by simp; omega
        rw [← hq0]
        clear hq0
        simp (maxSteps := 4000000) only [go_sem, ↓upXAbsY, ↓upXAbsZa, ↓upXOffC, hmx, hd]
        rw [show N - i = 0 by omega] at hdf
        have hdf : diffAt c cr 0 N = none := hdf
        exact ⟨⟨cr, rfl, hits⟩, VEnt.of_eq (by rw [hck, hdf])⟩
  · have dw : decide (askE l 104 s = 0) = false := decide_eq_false w
    simp only [Proofs.Tryz.f21]
    rw [enter_mkT (Nat.le_of_ble_eq_true rfl)]
    simp (maxSteps := 4000000) only [go_sem, ↓upXAbsY, ↓upXAbsZa, ↓upXOffC, dw, Bool.not_false, encHist]
    refine ⟨⟨l, _, s, rfl, hl, hE⟩, VEnt.of_eq ?_⟩
    unfold chkChE
    rw [if_pos w]

theorem oElig1_ok : Holds Proofs.Tryz.prog G0 115 elig1C := by
  refine Holds.of_exC D115 Proofs.Tryz.func115 rfl foll (by kernel_rfl) (tab [(116, Off.loudC), (117, hasOfferC)]) (tab_ok ⟨oLoud_ok, oHas_ok, trivial⟩) G0_ok fun k0 rl args hpu hpre => ?_
  unfold elig1C at hpre ⊢
  obtain ⟨r, s, rfl, hr, hla, hs⟩ := hpre
  simp only [arg_0, arg_1, cellsOf_cptr, List.getD_cons_zero, strOf_str, dec_reg]
  cases hL : r.isLoud s with
  | true =>
    simp only [Proofs.Tryz.f115]
    rw [enter_mkT (Nat.le_of_ble_eq_true rfl)]
    simp (maxSteps := 4000000) only [go_sem, ↓upXAbsY, ↓upXAbsZa, ↓upXOffC, hL]
    exact ⟨⟨r, s, rfl, hr, hs, hla⟩, ⟨r, s, rfl, hr⟩, VEnt.of_eq rfl⟩
  | false =>
    simp only [Proofs.Tryz.f115]
    rw [enter_mkT (Nat.le_of_ble_eq_true rfl)]
    simp (maxSteps := 4000000) only [go_sem, ↓upXAbsY, ↓upXAbsZa, ↓upXOffC, hL]
    exact ⟨⟨r, s, rfl, hr, hs, hla⟩, VEnt.of_eq rfl⟩

theorem oKeptStr_ok : Holds Proofs.Tryz.prog G0 114 (keptStrC 115) := by
  refine Holds.of_exC D114 Proofs.Tryz.func114 rfl foll (by kernel_rfl) (tab [(115, elig1C)]) (tab_ok ⟨oElig1_ok, trivial⟩) G0_ok fun k0 rl args hpu hpre => ?_
  unfold keptStrC at hpre ⊢
  obtain ⟨l, r, rfl, hl, hr, hla, hm⟩ := hpre
  simp only [arg_0, arg_1, dec_strs, dec_reg]
  have hgo : ∀ (q : Str → Bool) (i : Nat), ((l.take i).filter q).length ≤ i := fun q i => Nat.le_trans (List.length_filter_le _ _) (by rw [List.length_take]; omega)
  generalize hq : (fun s : Str => r.isLoud s && !r.hasOffer s) = q
  simp only [Proofs.Tryz.f114]
  rw [enter_mkT (Nat.le_of_ble_eq_true rfl)]
  simp (maxSteps := 4000000) only [go_sem, ↓upXAbsY, ↓upXAbsZa, ↓upXOffC, encStrs]
  refine RestT.ents (Ents.nilArr (d := 5) (l := (4, 1000)) 1 (fun _ => []) rfl rfl rfl) ?_
  simp (maxSteps := 4000000) only [go_sem, ↓upXAbsY, ↓upXAbsZa, ↓upXOffC]
  refine RestT.loopF (β := Nat) [(5, 5), (7, 7), (10, 21)] (fun i => [(5, .msl (4, 1000) 0 ((l.take i).filter q).length), (10, .int .i64 i)]) (fun i => updH (fun _ => none) (4, 1000) (.arr ((l.take i).filter q).length 1 (fun j => [.str (el ((l.take i).filter q) j)]))) (fun i => i ≤ l.length) (fun i => l.length - i) 0 (Nat.zero_le _) ?_ (HpLe.arr1 (updH_same _ _ _) rfl rfl fun i hi => by simp at hi) ?_
  · simp (maxSteps := 4000000) only [go_sem, ↓upXAbsY, ↓upXAbsZa, ↓upXOffC]
    try simp
  · intro ck i hck hi
    have hgi := hgo q i
    have hi : i ≤ l.length := hi
    generalize hq0 : exC _ _ _ _ _ = gg
    by_cases hlt : i < l.length
    · have hd : decide ((i : Int) < (l.length : Int)) = true := by simp; omega
      have hmi := hm _ (el_mem hlt)
      rw [← hq0]
      clear hq0
      simp (maxSteps := 4000000) only [go_sem, ↓upXAbsY, ↓upXAbsZa, ↓upXOffC, hd, encStrs]
      refine ⟨⟨by omega, by omega⟩, ⟨r, el l i, rfl, hr, hla, hmi⟩, fun h => ?_, fun h => ?_⟩
      · have hqi : q (el l i) = true := by rw [← hq]; simpa using h
        have hly : ((l.take i).filter q).length + 1 = ((l.take (i + 1)).filter q).length := by rw [filter_yes hlt hqi, List.length_append]; rfl
        exact ⟨⟨by omega, by omega, row_ok rfl ones_str⟩, inK_of (by omega) (by omega), i + 1, hlt, by omega, ⟨by rw [hly], rfl⟩, HpLe.arr1 (updH_same _ _ _) hly rfl fun j hj => by rw [filter_yes hlt hqi]; exact snocE (f := fun s : Str => [V.str s]) rfl rfl hj⟩
      · have hqi : q (el l i) = false := by rw [← hq]; simpa using h
        have hly := filter_no hlt hqi
        exact ⟨inK_of (by omega) (by omega), i + 1, hlt, by omega, ⟨by rw [hly], rfl⟩, HpLe.arr1 (by simp [updH]; exact ⟨rfl, rfl⟩) (by rw [hly]) rfl fun j hj => by rw [hly]⟩
    · have hd : decide ((i : Int) < (l.length : Int)) = false := by simp; omega
      obtain rfl : i = l.length := by omega
      rw [← hq0]
      clear hq0
      simp (maxSteps := 4000000) only [go_sem, ↓upXAbsY, ↓upXAbsZa, ↓upXOffC, hd, Nat.zero_add, encStrs]
      rw [List.take_length]
      exact VEnt.refl _

theorem oElig_ok : Holds Proofs.Tryz.prog G0 65 eligRC := by
  refine Holds.of_exC D65 Proofs.Tryz.func65 rfl foll (by kernel_rfl) (tab [(104, namesC), (114, keptStrC 115), (115, elig1C), (iceKey 1, iceC)]) (tab_ok ⟨oNames_ok, oKeptStr_ok, oElig1_ok, ice_holds, trivial⟩) G0_ok fun k0 rl args hpu hpre => ?_
  unfold eligRC at hpre ⊢
  obtain ⟨r, rfl, hr, hla⟩ := hpre
  simp only [arg_0, cellsOf_cptr, dec_reg]
  simp only [Proofs.Tryz.f65]
  rw [enter_mkT (Nat.le_of_ble_eq_true rfl)]
  simp (maxSteps := 4000000) only [go_sem, ↓upXAbsY, ↓upXAbsZa, ↓upXOffC]
  exact ⟨⟨r, _, rfl, hr⟩, ⟨_, r, rfl, hr.names _, hr, hla, fun s hs => hs⟩, VEnt.of_eq rfl⟩

theorem oEligQ_ok : Holds Proofs.Tryz.prog G0 23 eligQC := by
  refine Holds.of_exC D23 Proofs.Tryz.func23 rfl foll (by kernel_rfl) (tab [(46, replC), (65, eligRC)]) (tab_ok ⟨oReplayed_ok, oElig_ok, trivial⟩) G0_ok fun k0 rl args hpu hpre => ?_
  unfold eligQC at hpre ⊢
  obtain ⟨l, rfl, hl, hE⟩ := hpre
  simp only [arg_0, dec_evs]
  have hg := replayed_good l
  by_cases w : (replayed levelE l).2.2 = 0
  · have dw : decide ((replayed levelE l).2.2 = 0) = true := decide_eq_true w
    simp only [Proofs.Tryz.f23]
    rw [enter_mkT (Nat.le_of_ble_eq_true rfl)]
    simp (maxSteps := 4000000) only [go_sem, ↓upXAbsY, ↓upXAbsZa, ↓upXOffC, dw, Bool.not_true, encHist]
    refine ⟨⟨l, rfl, hl, hE⟩, ⟨_, rfl, hg.rl, hg.last⟩, VEnt.of_eq ?_⟩
    unfold eligE
    rw [if_neg (fun q => q w)]
  · have dw : decide ((replayed levelE l).2.2 = 0) = false := decide_eq_false w
    simp only [Proofs.Tryz.f23]
    rw [enter_mkT (Nat.le_of_ble_eq_true rfl)]
    simp (maxSteps := 4000000) only [go_sem, ↓upXAbsY, ↓upXAbsZa, ↓upXOffC, dw, Bool.not_false, encHist]
    refine ⟨⟨l, rfl, hl, hE⟩, ?_⟩
    unfold eligE
    rw [if_pos w]
    exact VEnt.tup ⟨VEnt.nils _ _, VEnt.refl _, trivial⟩

theorem oPublQ_ok : Holds Proofs.Tryz.prog G0 24 publQC := by
  refine Holds.of_exC D24 Proofs.Tryz.func24 rfl foll (by kernel_rfl) (tab [(47, firstC), (49, whenC), (55, askC), (66, indexC), (67, findC 109 encMp Reg.chart)]) (tab_ok ⟨oFirst_ok, oWhen_ok, oAsked_ok, oIndex_ok, oChart_ok, trivial⟩) G0_ok fun k0 rl args hpu hpre => ?_
  unfold publQC at hpre ⊢
  obtain ⟨l, m, s, rfl, hl, hE⟩ := hpre
  simp only [arg_0, arg_1, arg_2, strOf_str, dec_evs]
  have hg := replayed_good l
  by_cases w : askE l 109 m = 0
  · have dw : decide (askE l 109 m = 0) = true := decide_eq_true w
    obtain ⟨w1, w2⟩ := ask_zero w
    simp only [Proofs.Tryz.f24]
    rw [enter_mkT (Nat.le_of_ble_eq_true rfl)]
    simp (maxSteps := 4000000) only [go_sem, ↓upXAbsY, ↓upXAbsZa, ↓upXOffC, dw, Bool.not_true, encHist, encMp, encInts]
    obtain ⟨C, hC⟩ : ∃ C, C = firstL [err (decide (idxE ((replayed levelE l).1.now.namesOf 104) s < 0)) 10, err (decide ((((replayed levelE l).1.now.chart m).levels.length : Int) ≤ idxE ((replayed levelE l).1.now.namesOf 104) s)) 7] := ⟨_, rfl⟩
    have hpe : publE l m s = if C ≠ 0 then (0, C) else (el ((replayed levelE l).1.now.chart m).levels (idxE ((replayed levelE l).1.now.namesOf 104) s).toNat, 0) := by
      unfold publE
      rw [if_neg (fun q => q w), hC]
    simp only [← hC]
    refine ⟨⟨l, _, m, rfl, hl, hE⟩, ⟨_, _, s, rfl, hg.rl⟩, ⟨_, m, rfl, hg.rl, w2⟩, fun h => VEnt.of_eq ?_, fun h => ⟨?_, VEnt.of_eq ?_⟩⟩
    · have h : ¬ C = 0 := by simpa using h
      rw [hpe, if_pos h]
    · have h : C = 0 := by simpa using h
      rw [hC, firstL_zero] at h
      have q1 := (err_zero (e := 10) (by decide)).1 (h _ (List.mem_cons_self ..))
      have q2 := (err_zero (e := 7) (by decide)).1 (h _ (List.mem_cons_of_mem _ (List.mem_cons_self ..)))
      have q1 := of_decide_eq_false q1
      have q2 := of_decide_eq_false q2
      omega
    · have h : C = 0 := by simpa using h
      rw [hpe, if_neg (fun q => q h)]
  · have dw : decide (askE l 109 m = 0) = false := decide_eq_false w
    simp only [Proofs.Tryz.f24]
    rw [enter_mkT (Nat.le_of_ble_eq_true rfl)]
    simp (maxSteps := 4000000) only [go_sem, ↓upXAbsY, ↓upXAbsZa, ↓upXOffC, dw, Bool.not_false, encHist]
    refine ⟨⟨l, _, m, rfl, hl, hE⟩, VEnt.of_eq ?_⟩
    unfold publE
    rw [if_pos w]
end Go.Fly.Tryz
end
