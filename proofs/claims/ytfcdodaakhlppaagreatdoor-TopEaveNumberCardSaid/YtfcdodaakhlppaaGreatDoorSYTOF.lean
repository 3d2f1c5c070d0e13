/- The office: what is known, what is accepted. -/
import Derived.Test.YtfcdodaakhlppaaGreatDoorSYTOE
import Derived.Test.YtfcdodaakhlppaaGreatDoorAN
set_option linter.unusedSimpArgs false
set_option linter.unusedVariables false
set_option maxRecDepth 100000
set_option maxHeartbeats 4000000
namespace Go.Fly.Tryz
open Go Off

theorem oKnown_ok : Holds Proofs.Tryz.prog G0 103 (knownC chkF appF) := by
  refine Holds.of_exC D103 Proofs.Tryz.func103 rfl foll (by kernel_rfl) (tab [(49, whenC), (102, containsC), (104, namesC), (iceKey 4, iceC), (iceKey 5, iceC)]) (tab_ok ⟨oWhen_ok, sContains_ok, oNames_ok, ice_holds, ice_holds, trivial⟩) G0_ok fun k0 rl args hpu hpre => ?_
  unfold knownC at hpre ⊢
  obtain ⟨r, k, e, rfl, hr, hnm⟩ := hpre
  simp only [arg_0, arg_1, arg_2, cellsOf_cptr, cellsOf_agg, dec_reg, dec_ev, formK, List.getD_cons_zero, strOf_str]
  generalize hls : k.letters = ls at *
  have hl2 : ls.length ≤ 1000000 := by rw [← hls]; cases k <;> decide
  simp only [Proofs.Tryz.f103]
  rw [enter_mkT (Nat.le_of_ble_eq_true rfl)]
  simp (maxSteps := 4000000) only [go_sem, ↓upXAbsY, ↓upXAbsZa, ↓upXOffC, encEv, encStrs, formK, hls]
  refine RestT.loopF (β := Nat) [(6, 11), (15, 49)] (fun i => [(7, .bool (twiceB r e ls i)), (15, .int .i64 i)]) (fun _ => fun _ => none) (fun i => i ≤ ls.length ∧ NoUnk r e ls i) (fun i => ls.length - i) 0 ⟨Nat.zero_le _, fun j hj => by omega⟩ ?_ HpLe.none ?_
  · simp (maxSteps := 4000000) only [go_sem, ↓upXAbsY, ↓upXAbsZa, ↓upXOffC]
    try exact rfl
  · intro ck i hck hI
    obtain ⟨hi, hno⟩ := hI
    generalize hq0 : exC _ _ _ _ _ = gg
    by_cases hlt : i < ls.length
    · have hd : decide ((i : Int) < (ls.length : Int)) = true := by simp; omega
      have hel : ls[i]?.getD 0 = el ls i := by rw [el, List.getD_eq_getElem?_getD]; rfl
      obtain ⟨c, hc⟩ : ∃ c : Nat, (el ls i).toNat = c := ⟨_, rfl⟩
      have hc8 : c < 256 := by rw [← hc]; exact (el ls i).toNat_lt
      obtain ⟨tw, htw⟩ : ∃ tw, twiceB r e ls i = tw := ⟨_, rfl⟩
      have hts := twice_step r e ls i
      rw [htw] at hts
      have hnx : ∀ {f th : Bool}, freshAt ls i = f → thereAt r e ls i = th → (!f && !th) = false → NoUnk r e ls (i + 1) := fun {f th} h1 h2 h3 j hj => by
        by_cases q : j = i
        · subst q; rw [h1, h2]; exact h3
        · exact hno j (by omega)
      cases hf : freshAt ls i with
      | true =>
        have hcl : (c : Int) < 97 := by unfold freshAt at hf; rw [hc] at hf; exact of_decide_eq_true hf
        have hdc : decide ((c : Int) < 97) = true := decide_eq_true hcl
        have hla : letterAt ls i = (c : Int) + 32 := by unfold letterAt; rw [if_pos hf, hc]
        cases hth : thereAt r e ls i with
        | true =>
          have hdt : decide (el e.names i ∈ r.namesOf ((c : Int) + 32)) = true := by rw [← hla]; exact hth
          rw [← hq0]
          clear hq0
          cases tw
          all_goals
            simp (maxSteps := 4000000) only [go_sem, ↓upXAbsY, ↓upXAbsZa, ↓upXOffC, hd, encStrs, hel, hc, hdc, hdt, htw]
            exact ⟨⟨by omega, by omega⟩, (inK_u8 _).2 ⟨by omega, by omega⟩, ⟨r, _, rfl, hr⟩, ⟨by omega, by omega⟩, ⟨_, _, _, rfl, strsV (hr.names _)⟩, inK_of (by omega) (by omega), i + 1, ⟨hlt, hnx hf hth rfl⟩, by omega, ⟨by rw [hts, hf, hth]; rfl, rfl⟩, HpLe.none⟩
        | false =>
          have hdt : decide (el e.names i ∈ r.namesOf ((c : Int) + 32)) = false := by rw [← hla]; exact hth
          rw [← hq0]
          clear hq0
          cases tw
          all_goals
            simp (maxSteps := 4000000) only [go_sem, ↓upXAbsY, ↓upXAbsZa, ↓upXOffC, hd, encStrs, hel, hc, hdc, hdt, htw]
            exact ⟨⟨by omega, by omega⟩, (inK_u8 _).2 ⟨by omega, by omega⟩, ⟨r, _, rfl, hr⟩, ⟨by omega, by omega⟩, ⟨_, _, _, rfl, strsV (hr.names _)⟩, inK_of (by omega) (by omega), i + 1, ⟨hlt, hnx hf hth rfl⟩, by omega, ⟨by rw [hts, hf, hth]; rfl, rfl⟩, HpLe.none⟩
      | false =>
        have hcl : ¬ (c : Int) < 97 := by unfold freshAt at hf; rw [hc] at hf; exact of_decide_eq_false hf
        have hdc : decide ((c : Int) < 97) = false := decide_eq_false hcl
        have hla : letterAt ls i = (c : Int) := by unfold letterAt; rw [if_neg (by rw [hf]; simp), hc]
        cases hth : thereAt r e ls i with
        | true =>
          have hdt : decide (el e.names i ∈ r.namesOf (c : Int)) = true := by rw [← hla]; exact hth
          rw [← hq0]
          clear hq0
          cases tw
          all_goals
            simp (maxSteps := 4000000) only [go_sem, ↓upXAbsY, ↓upXAbsZa, ↓upXOffC, hd, encStrs, hel, hc, hdc, hdt, htw]
            first | exact ⟨⟨by omega, by omega⟩, ⟨r, _, rfl, hr⟩, ⟨by omega, by omega⟩, ⟨_, _, _, rfl, strsV (hr.names _)⟩, inK_of (by omega) (by omega), i + 1, ⟨hlt, hnx hf hth rfl⟩, by omega, ⟨by rw [hts, hf, hth]; rfl, rfl⟩, HpLe.none⟩
        | false =>
          have hdt : decide (el e.names i ∈ r.namesOf (c : Int)) = false := by rw [← hla]; exact hth
          rw [← hq0]
          clear hq0
          cases tw
          all_goals
            simp (maxSteps := 4000000) only [go_sem, ↓upXAbsY, ↓upXAbsZa, ↓upXOffC, hd, encStrs, hel, hc, hdc, hdt, htw]
            first | exact ⟨⟨by omega, by omega⟩, ⟨r, _, rfl, hr⟩, ⟨by omega, by omega⟩, ⟨_, _, _, rfl, strsV (hr.names _)⟩, VEnt.of_eq (by rw [known_unk hlt (by rw [hf, hth]; rfl)])⟩ | trace_state
    · have hd : decide ((i : Int) < (ls.length : Int)) = false := by simp; omega
      obtain rfl : i = ls.length := by omega
      rw [← hq0]
      clear hq0
      simp (maxSteps := 4000000) only [go_sem, ↓upXAbsY, ↓upXAbsZa, ↓upXOffC, hd]
      exact VEnt.of_eq (by rw [known_end hno])

theorem fc1_ok : Holds Proofs.Tryz.prog G0 157 (chkC .type) := by
  refine Holds.of_exC D157 Proofs.Tryz.func157 rfl foll (by kernel_rfl) (tab [(47, firstC), (49, whenC), (97, withinC), (iceKey 3, iceC)]) (tab_ok ⟨oFirst_ok, oWhen_ok, oWithin_ok, ice_holds, trivial⟩) G0_ok fun k0 rl args hpu hpre => ?_
  unfold chkC at hpre ⊢
  obtain ⟨r, e, rfl, hp⟩ := hpre
  simp only [arg_0, arg_1, cellsOf_cptr, cellsOf_agg, dec_reg, dec_ev]
  have hv : e.vals.length = 2 := hp.vals
  have hn : e.names.length = 1 := hp.names
  obtain ⟨⟨r1, r2, r3, r4, r5, r6⟩, hlast, -, -, hkn, hbd⟩ := id hp
  simp only [Proofs.Tryz.f157]
  rw [enter_mkT (Nat.le_of_ble_eq_true rfl)]
  simp (maxSteps := 4000000) only [go_sem, ↓upXAbsY, ↓upXAbsZa, ↓upXOffC, encEv, encInts, encStrs, encRows, encFl, encOf, encCo, dEq8]
  exact ⟨by omega, VEnt.of_eq rfl⟩
theorem fc2_ok : Holds Proofs.Tryz.prog G0 159 (chkC .house) := by
  refine Holds.of_exC D159 Proofs.Tryz.func159 rfl foll (by kernel_rfl) (tab [(47, firstC), (49, whenC), (97, withinC), (iceKey 3, iceC)]) (tab_ok ⟨oFirst_ok, oWhen_ok, oWithin_ok, ice_holds, trivial⟩) G0_ok fun k0 rl args hpu hpre => ?_
  unfold chkC at hpre ⊢
  obtain ⟨r, e, rfl, hp⟩ := hpre
  simp only [arg_0, arg_1, cellsOf_cptr, cellsOf_agg, dec_reg, dec_ev]
  have hv : e.vals.length = 2 := hp.vals
  have hn : e.names.length = 1 := hp.names
  obtain ⟨⟨r1, r2, r3, r4, r5, r6⟩, hlast, -, -, hkn, hbd⟩ := id hp
  simp only [Proofs.Tryz.f159]
  rw [enter_mkT (Nat.le_of_ble_eq_true rfl)]
  simp (maxSteps := 4000000) only [go_sem, ↓upXAbsY, ↓upXAbsZa, ↓upXOffC, encEv, encInts, encStrs, encRows, encFl, encOf, encCo, dEq32]
  exact ⟨by omega, VEnt.of_eq rfl⟩
theorem fc3_ok : Holds Proofs.Tryz.prog G0 161 (chkC .flight) := by
  refine Holds.of_exC D161 Proofs.Tryz.func161 rfl foll (by kernel_rfl) (tab [(47, firstC), (49, whenC), (97, withinC), (iceKey 3, iceC)]) (tab_ok ⟨oFirst_ok, oWhen_ok, oWithin_ok, ice_holds, trivial⟩) G0_ok fun k0 rl args hpu hpre => ?_
  unfold chkC at hpre ⊢
  obtain ⟨r, e, rfl, hp⟩ := hpre
  simp only [arg_0, arg_1, cellsOf_cptr, cellsOf_agg, dec_reg, dec_ev]
  have hv : e.vals.length = 2 := hp.vals
  have hn : e.names.length = 2 := hp.names
  obtain ⟨⟨r1, r2, r3, r4, r5, r6⟩, hlast, -, -, hkn, hbd⟩ := id hp
  simp only [Proofs.Tryz.f161]
  rw [enter_mkT (Nat.le_of_ble_eq_true rfl)]
  simp (maxSteps := 4000000) only [go_sem, ↓upXAbsY, ↓upXAbsZa, ↓upXOffC, encEv, encInts, encStrs, encRows, encFl, encOf, encCo, dEq64]
  exact ⟨by omega, VEnt.of_eq rfl⟩
theorem fc4_ok : Holds Proofs.Tryz.prog G0 163 (chkC .match_) := by
  refine Holds.of_exC D163 Proofs.Tryz.func163 rfl foll (by kernel_rfl) (tab [(47, firstC), (49, whenC), (97, withinC), (164, findC 102 encFl Reg.flight), (165, flB (fun f => decide (f.heard ≠ -1))), (iceKey 3, iceC)]) (tab_ok ⟨oFirst_ok, oWhen_ok, oWithin_ok, oFlight_ok, oIsM_ok, ice_holds, trivial⟩) G0_ok fun k0 rl args hpu hpre => ?_
  unfold chkC at hpre ⊢
  obtain ⟨r, e, rfl, hp⟩ := hpre
  simp only [arg_0, arg_1, cellsOf_cptr, cellsOf_agg, dec_reg, dec_ev]
  have hv : e.vals.length = 2 := hp.vals
  have hn : e.names.length = 1 := hp.names
  obtain ⟨⟨r1, r2, r3, r4, r5, r6⟩, hlast, -, -, hkn, hbd⟩ := id hp
  have h0 : el e.names 0 ∈ r.namesOf 102 := there_of hkn (i := 0) (by decide) rfl
  simp only [Proofs.Tryz.f163]
  rw [enter_mkT (Nat.le_of_ble_eq_true rfl)]
  simp (maxSteps := 4000000) only [go_sem, ↓upXAbsY, ↓upXAbsZa, ↓upXOffC, encEv, encInts, encStrs, encRows, encFl, encOf, encCo, dEq0]
  exact ⟨by omega, by omega, ⟨r, _, rfl, hp.rl, h0⟩, ⟨_, rfl⟩, VEnt.of_eq rfl⟩
theorem fc5_ok : Holds Proofs.Tryz.prog G0 167 (chkC .correct) := by
  refine Holds.of_exC D167 Proofs.Tryz.func167 rfl foll (by kernel_rfl) (tab [(47, firstC), (49, whenC), (97, withinC), (168, matchedC), (iceKey 3, iceC)]) (tab_ok ⟨oFirst_ok, oWhen_ok, oWithin_ok, oMatched_ok, ice_holds, trivial⟩) G0_ok fun k0 rl args hpu hpre => ?_
  unfold chkC at hpre ⊢
  obtain ⟨r, e, rfl, hp⟩ := hpre
  simp only [arg_0, arg_1, cellsOf_cptr, cellsOf_agg, dec_reg, dec_ev]
  have hv : e.vals.length = 2 := hp.vals
  have hn : e.names.length = 1 := hp.names
  obtain ⟨⟨r1, r2, r3, r4, r5, r6⟩, hlast, -, -, hkn, hbd⟩ := id hp
  simp only [Proofs.Tryz.f167]
  rw [enter_mkT (Nat.le_of_ble_eq_true rfl)]
  simp (maxSteps := 4000000) only [go_sem, ↓upXAbsY, ↓upXAbsZa, ↓upXOffC, encEv, encInts, encStrs, encRows, encFl, encOf, encCo, dLt3]
  exact ⟨by omega, by omega, ⟨r, _, rfl, hp.rl⟩, VEnt.of_eq rfl⟩
theorem fc6_ok : Holds Proofs.Tryz.prog G0 171 (chkC .publish) := by
  refine Holds.of_exC D171 Proofs.Tryz.func171 rfl foll (by kernel_rfl) (tab [(47, firstC), (49, whenC), (iceKey 3, iceC)]) (tab_ok ⟨oFirst_ok, oWhen_ok, ice_holds, trivial⟩) G0_ok fun k0 rl args hpu hpre => ?_
  unfold chkC at hpre ⊢
  obtain ⟨r, e, rfl, hp⟩ := hpre
  simp only [arg_0, arg_1, cellsOf_cptr, cellsOf_agg, dec_reg, dec_ev]
  have hv : e.vals.length = 1 := hp.vals
  have hn : e.names.length = 1 := hp.names
  obtain ⟨⟨r1, r2, r3, r4, r5, r6⟩, hlast, -, -, hkn, hbd⟩ := id hp
  simp only [Proofs.Tryz.f171]
  rw [enter_mkT (Nat.le_of_ble_eq_true rfl)]
  simp (maxSteps := 4000000) only [go_sem, ↓upXAbsY, ↓upXAbsZa, ↓upXOffC, encEv, encInts, encStrs, encRows, encFl, encOf, encCo, dEq0, dEq16]
  exact VEnt.of_eq rfl
theorem fc7_ok : Holds Proofs.Tryz.prog G0 175 (chkC .offer) := by
  refine Holds.of_exC D175 Proofs.Tryz.func175 rfl foll (by kernel_rfl) (tab [(47, firstC), (49, whenC), (97, withinC), (116, loudC), (117, hasOfferC), (iceKey 3, iceC)]) (tab_ok ⟨oFirst_ok, oWhen_ok, oWithin_ok, oLoud_ok, oHas_ok, ice_holds, trivial⟩) G0_ok fun k0 rl args hpu hpre => ?_
  unfold chkC at hpre ⊢
  obtain ⟨r, e, rfl, hp⟩ := hpre
  simp only [arg_0, arg_1, cellsOf_cptr, cellsOf_agg, dec_reg, dec_ev]
  have hv : e.vals.length = 2 := hp.vals
  have hn : e.names.length = 2 := hp.names
  obtain ⟨⟨r1, r2, r3, r4, r5, r6⟩, hlast, -, -, hkn, hbd⟩ := id hp
  have h1 : el e.names 1 ∈ r.namesOf 104 := there_of hkn (i := 1) (by decide) rfl
  simp only [Proofs.Tryz.f175]
  rw [enter_mkT (Nat.le_of_ble_eq_true rfl)]
  simp (maxSteps := 4000000) only [go_sem, ↓upXAbsY, ↓upXAbsZa, ↓upXOffC, encEv, encInts, encStrs, encRows, encFl, encOf, encCo, dEq0, dEq32]
  exact ⟨by omega, by omega, ⟨r, _, rfl, hp.rl, h1, hlast⟩, by omega, ⟨r, _, rfl, hp.rl⟩, VEnt.of_eq rfl⟩
theorem fc8_ok : Holds Proofs.Tryz.prog G0 177 (chkC .fund) := by
  refine Holds.of_exC D177 Proofs.Tryz.func177 rfl foll (by kernel_rfl) (tab [(47, firstC), (49, whenC), (97, withinC), (iceKey 3, iceC)]) (tab_ok ⟨oFirst_ok, oWhen_ok, oWithin_ok, ice_holds, trivial⟩) G0_ok fun k0 rl args hpu hpre => ?_
  unfold chkC at hpre ⊢
  obtain ⟨r, e, rfl, hp⟩ := hpre
  simp only [arg_0, arg_1, cellsOf_cptr, cellsOf_agg, dec_reg, dec_ev]
  have hv : e.vals.length = 2 := hp.vals
  have hn : e.names.length = 0 := hp.names
  obtain ⟨⟨r1, r2, r3, r4, r5, r6⟩, hlast, -, -, hkn, hbd⟩ := id hp
  have hb1 := hbd _ (el_mem (l := e.vals) (i := 1) (by omega))
  simp only [Proofs.Tryz.f177]
  rw [enter_mkT (Nat.le_of_ble_eq_true rfl)]
  simp (maxSteps := 4000000) only [go_sem, ↓upXAbsY, ↓upXAbsZa, ↓upXOffC, encEv, encInts, encStrs, encRows, encFl, encOf, encCo, dEq0]
  exact ⟨by omega, by omega, inK_of (by omega) (by omega), VEnt.of_eq rfl⟩
theorem fc9_ok : Holds Proofs.Tryz.prog G0 179 (chkC .pay) := by
  refine Holds.of_exC D179 Proofs.Tryz.func179 rfl foll (by kernel_rfl) (tab [(47, firstC), (49, whenC), (136, findC 111 encOf Reg.offer), (iceKey 3, iceC)]) (tab_ok ⟨oFirst_ok, oWhen_ok, oOffer_ok, ice_holds, trivial⟩) G0_ok fun k0 rl args hpu hpre => ?_
  unfold chkC at hpre ⊢
  obtain ⟨r, e, rfl, hp⟩ := hpre
  simp only [arg_0, arg_1, cellsOf_cptr, cellsOf_agg, dec_reg, dec_ev]
  have hv : e.vals.length = 1 := hp.vals
  have hn : e.names.length = 1 := hp.names
  obtain ⟨⟨r1, r2, r3, r4, r5, r6⟩, hlast, -, -, hkn, hbd⟩ := id hp
  have h0 : el e.names 0 ∈ r.namesOf 111 := there_of hkn (i := 0) (by decide) rfl
  simp only [Proofs.Tryz.f179]
  rw [enter_mkT (Nat.le_of_ble_eq_true rfl)]
  simp (maxSteps := 4000000) only [go_sem, ↓upXAbsY, ↓upXAbsZa, ↓upXOffC, encEv, encInts, encStrs, encRows, encFl, encOf, encCo, dEq0]
  exact ⟨by omega, ⟨r, _, rfl, hp.rl, h0⟩, VEnt.of_eq rfl⟩
theorem fc10_ok : Holds Proofs.Tryz.prog G0 181 (chkC .complain) := by
  refine Holds.of_exC D181 Proofs.Tryz.func181 rfl foll (by kernel_rfl) (tab [(47, firstC), (49, whenC), (97, withinC), (iceKey 3, iceC)]) (tab_ok ⟨oFirst_ok, oWhen_ok, oWithin_ok, ice_holds, trivial⟩) G0_ok fun k0 rl args hpu hpre => ?_
  unfold chkC at hpre ⊢
  obtain ⟨r, e, rfl, hp⟩ := hpre
  simp only [arg_0, arg_1, cellsOf_cptr, cellsOf_agg, dec_reg, dec_ev]
  have hv : e.vals.length = 2 := hp.vals
  have hn : e.names.length = 2 := hp.names
  obtain ⟨⟨r1, r2, r3, r4, r5, r6⟩, hlast, -, -, hkn, hbd⟩ := id hp
  simp only [Proofs.Tryz.f181]
  rw [enter_mkT (Nat.le_of_ble_eq_true rfl)]
  simp (maxSteps := 4000000) only [go_sem, ↓upXAbsY, ↓upXAbsZa, ↓upXOffC, encEv, encInts, encStrs, encRows, encFl, encOf, encCo, dEq64]
  exact ⟨by omega, VEnt.of_eq rfl⟩
theorem fc11_ok : Holds Proofs.Tryz.prog G0 183 (chkC .answer) := by
  refine Holds.of_exC D183 Proofs.Tryz.func183 rfl foll (by kernel_rfl) (tab [(47, firstC), (49, whenC), (137, findC 99 encCo Reg.complaint), (164, findC 102 encFl Reg.flight), (iceKey 3, iceC)]) (tab_ok ⟨oFirst_ok, oWhen_ok, oCompl_ok, oFlight_ok, ice_holds, trivial⟩) G0_ok fun k0 rl args hpu hpre => ?_
  unfold chkC at hpre ⊢
  obtain ⟨r, e, rfl, hp⟩ := hpre
  simp only [arg_0, arg_1, cellsOf_cptr, cellsOf_agg, dec_reg, dec_ev]
  have hv : e.vals.length = 1 := hp.vals
  have hn : e.names.length = 2 := hp.names
  obtain ⟨⟨r1, r2, r3, r4, r5, r6⟩, hlast, -, -, hkn, hbd⟩ := id hp
  have h0 : el e.names 0 ∈ r.namesOf 99 := there_of hkn (i := 0) (by decide) rfl
  have h1 : el e.names 1 ∈ r.namesOf 102 := there_of hkn (i := 1) (by decide) rfl
  simp only [Proofs.Tryz.f183]
  rw [enter_mkT (Nat.le_of_ble_eq_true rfl)]
  simp (maxSteps := 4000000) only [go_sem, ↓upXAbsY, ↓upXAbsZa, ↓upXOffC, encEv, encInts, encStrs, encRows, encFl, encOf, encCo, dEq0]
  exact ⟨by omega, ⟨r, _, rfl, hp.rl, h0⟩, by omega, ⟨r, _, rfl, hp.rl, h1⟩, VEnt.of_eq (by unfold checkK Ev.nm; by_cases q : (r.complaint (el e.names 0)).answered = -1 <;> by_cases q2 : (r.flight (el e.names 1)).day = (r.complaint (el e.names 0)).day <;> simp [q, q2])⟩
theorem fc12_ok : Holds Proofs.Tryz.prog G0 185 (chkC .dismiss) := by
  refine Holds.of_exC D185 Proofs.Tryz.func185 rfl foll (by kernel_rfl) (tab [(47, firstC), (49, whenC), (137, findC 99 encCo Reg.complaint), (186, fliesC), (iceKey 3, iceC)]) (tab_ok ⟨oFirst_ok, oWhen_ok, oCompl_ok, oFlies_ok, ice_holds, trivial⟩) G0_ok fun k0 rl args hpu hpre => ?_
  unfold chkC at hpre ⊢
  obtain ⟨r, e, rfl, hp⟩ := hpre
  simp only [arg_0, arg_1, cellsOf_cptr, cellsOf_agg, dec_reg, dec_ev]
  have hv : e.vals.length = 1 := hp.vals
  have hn : e.names.length = 1 := hp.names
  obtain ⟨⟨r1, r2, r3, r4, r5, r6⟩, hlast, -, -, hkn, hbd⟩ := id hp
  have h0 : el e.names 0 ∈ r.namesOf 99 := there_of hkn (i := 0) (by decide) rfl
  simp only [Proofs.Tryz.f185]
  rw [enter_mkT (Nat.le_of_ble_eq_true rfl)]
  simp (maxSteps := 4000000) only [go_sem, ↓upXAbsY, ↓upXAbsZa, ↓upXOffC, encEv, encInts, encStrs, encRows, encFl, encOf, encCo, dEq0]
  exact ⟨by omega, ⟨r, _, rfl, hp.rl, h0⟩, ⟨r, _, rfl, hp.rl⟩, VEnt.of_eq (by unfold checkK Ev.nm; by_cases q : (r.complaint (el e.names 0)).answered = -1 <;> simp [q])⟩
end Go.Fly.Tryz
