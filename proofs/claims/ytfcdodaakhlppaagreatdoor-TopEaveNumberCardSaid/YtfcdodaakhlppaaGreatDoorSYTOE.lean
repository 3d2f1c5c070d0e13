/- The office: chains, numbers, levels. -/
import Derived.Test.YtfcdodaakhlppaaGreatDoorSYTOD
import Derived.Test.YtfcdodaakhlppaaGreatDoorSYTBI
import Derived.Test.YtfcdodaakhlppaaGreatDoorAM
set_option linter.unusedSimpArgs false
set_option linter.unusedVariables false
set_option maxRecDepth 100000
set_option maxHeartbeats 4000000
namespace Go.Fly.Tryz
open Go Off

theorem oParts_ok : Holds Proofs.Tryz.prog G0 105 (partsC 201) := by
  refine Holds.of_exC D105 Proofs.Tryz.func105 rfl foll (by kernel_rfl) (tab [(iceKey 2, iceC), (iceKey 3, iceC)]) (tab_ok ⟨ice_holds, ice_holds, trivial⟩) G0_ok fun k0 rl args hpu hpre => ?_
  unfold partsC at hpre ⊢
  obtain ⟨r, h, rfl⟩ := hpre
  simp only [arg_0, arg_1, cellsOf_cptr, cellsOf_agg, dec_reg, dec_ho]
  simp only [Proofs.Tryz.f105]
  rw [enter_mkT (Nat.le_of_ble_eq_true rfl)]
  simp (maxSteps := 4000000) only [go_sem, ↓upXAbsY, ↓upXAbsZa, ↓upXOffC, encHo]
  exact VEnt.of_eq rfl

theorem oNumber_ok : Holds Proofs.Tryz.prog G0 58 numberC := by
  refine Holds.of_exC D58 Proofs.Tryz.func58 rfl foll (by kernel_rfl) (tab [(106, level2C)]) (tab_ok ⟨dLevel2_ok, trivial⟩) G0_ok fun k0 rl args hpu hpre => ?_
  unfold numberC at hpre ⊢
  obtain ⟨l, rfl, hl⟩ := hpre
  simp only [arg_0, dec_its]
  simp only [Proofs.Tryz.f58]
  rw [enter_mkT (Nat.le_of_ble_eq_true rfl)]
  simp (maxSteps := 4000000) only [go_sem, ↓upXAbsY, ↓upXAbsZa, ↓upXOffC, encRows, encIt]
  refine RestT.loopF (β := Nat) [(4, 4), (6, 6), (11, 19)] (fun i => [(4, .int .i64 (sumN l i)), (11, .int .i64 i)]) (fun _ => fun _ => none) (fun i => i ≤ l.length) (fun i => l.length - i) 0 (Nat.zero_le _) ?_ HpLe.none ?_
  · simp (maxSteps := 4000000) only [go_sem, ↓upXAbsY, ↓upXAbsZa, ↓upXOffC]
    try exact rfl
  · intro ck i hck hi
    have hi : i ≤ l.length := hi
    have hsb := sum_bd hl hi
    have h64 := hl.1
    generalize hq0 : exC _ _ _ _ _ = gg
    by_cases hlt : i < l.length
    · have hd : decide ((i : Int) < (l.length : Int)) = true := by simp; omega
      have hx := hl.2 _ (el_mem hlt)
      rw [← hq0]
      clear hq0
      simp (maxSteps := 4000000) only [go_sem, ↓upXAbsY, ↓upXAbsZa, ↓upXOffC, hd, encRows, encIt]
      exact ⟨⟨by omega, by omega⟩, inK_of (by omega) (by omega), inK_of (by omega) (by omega), i + 1, hlt, by omega, ⟨by rw [sum_step hlt], rfl⟩, HpLe.none⟩
    · have hd : decide ((i : Int) < (l.length : Int)) = false := by simp; omega
      obtain rfl : i = l.length := by omega
      rw [← hq0]
      clear hq0
      rw [sum_all] at hsb
      simp (maxSteps := 4000000) only [go_sem, ↓upXAbsY, ↓upXAbsZa, ↓upXOffC, hd, sum_all]
      exact ⟨⟨by omega, by omega⟩, VEnt.of_eq rfl⟩

theorem oChain_ok : Holds Proofs.Tryz.prog G0 56 chainC := by
  refine Holds.of_exC D56 Proofs.Tryz.func56 rfl foll (by kernel_rfl) (tab [(105, partsC 201), (170, findC 116 encTy Reg.typ), (iceKey 3, iceC)]) (tab_ok ⟨oParts_ok, oKind_ok, ice_holds, trivial⟩) G0_ok fun k0 rl args hpu hpre => ?_
  unfold chainC at hpre ⊢
  obtain ⟨r, h, rfl, hc⟩ := hpre
  simp only [arg_0, arg_1, cellsOf_cptr, cellsOf_agg, dec_reg, dec_ho]
  obtain ⟨hr, ht, hfk, h64, hsh⟩ := id hc
  simp only [Proofs.Tryz.f56]
  rw [enter_mkT (Nat.le_of_ble_eq_true rfl)]
  simp (maxSteps := 4000000) only [go_sem, ↓upXAbsY, ↓upXAbsZa, ↓upXOffC, encHo]
  refine ⟨⟨r, h, rfl⟩, ?_⟩
  refine RestT.ents (Ents.nilC (l := (4, 1000)) (l2 := (3, 5)) (cs := [.nils]) (j := 0) 2 (fun k => encIt (el (r.chain h.share) k)) (by simp) (by simp [updH]) rfl (by simp [updH]) rfl) ?_
  refine RestT.rangeFunc2 rfl (f := 201) (fn := Proofs.Tryz.f201) rfl en201 Proofs.Tryz.func201 rfl (fun L => by simp [updH]) (Dc := D201) (by kernel_rfl) ?_
  intro L r' k1 e1 e2 e3 e4 e5 e6 hm hd1 hd2
  simp only [Proofs.Tryz.f201]
  rw [app_mkT (Nat.le_of_ble_eq_true rfl)]
  simp (maxSteps := 4000000) only [go_sem, ↓upXAbsY, ↓upXAbsZa, ↓upXOffC, encRows, encFl]
  refine RestT.loopF (β := Nat) [(5, 6), (12, 38)] (fun i => [(12, .int .i64 i)])
    (fun i => updH (updH (updH (fun _ => none) (3, 5) (.cells [.msl (4, 1000) 0 i])) (4, 1000) (.arr i 2 (fun k => encIt (el (r.chain h.share) k)))) (0, L) (.raw (.loop r')))
    (fun i => i ≤ r.flights.length) (fun i => r.flights.length - i) 0 (Nat.zero_le _) ?_ ?_ ?_
  · simp (maxSteps := 4000000) only [go_sem, ↓upXAbsY, ↓upXAbsZa, ↓upXOffC]
    try exact rfl
  · refine HpLe.upd (HpLe.upd (HpLe.upd HpLe.none ⟨_, ?_, ObjLe.refl _⟩) ⟨_, ?_, ObjLe.refl _⟩) ⟨_, ?_, ObjLe.refl _⟩ <;> simp [updH]
  · intro ck i hck hi
    have hi : i ≤ r.flights.length := hi
    have hk0 : ¬ ck = 0 := by omega
    have hk1 : ¬ ck = 1 := by omega
    have hk2 : ¬ ck = 2 := by omega
    have hk3 : ¬ ck = 3 := by omega
    generalize hq0 : exC _ _ _ _ _ = gg
    by_cases hlt : i < r.flights.length
    · have hd : decide ((i : Int) < (r.flights.length : Int)) = true := by simp; omega
      have hmem := el_mem hlt
      have hty := hfk _ hmem
      obtain ⟨b1, b2⟩ := ht _ (typ_mem hty)
      obtain ⟨m1, m2, m3⟩ := mul3_bd b1 b2 hsh
      have hrow : encIt (el (r.chain h.share) i) = [.str (el r.flights i).name, .int .i64 (((r.typ (el r.flights i).type).energy * (r.typ (el r.flights i).type).factor * h.share).tdiv 1000000)] := by
        unfold Reg.chain; rw [el_map (fun f : Fl => (f.name, r.energyAt h.share f)) r.flights hlt]; rfl
      rw [← hq0]
      clear hq0
      simp (maxSteps := 4000000) only [go_sem, ↓upXAbsY, ↓upXAbsZa, ↓upXOffC, hd, encRows, encFl, encTy, encHo, hk0, hk1, hk2, hk3]
      refine ⟨⟨by omega, by omega⟩, ⟨r, _, rfl, hr, hty⟩, inK_of (by omega) (by omega), inK_of (by omega) (by omega), inK_of (by omega) (by omega), ?_⟩
      refine YieldT.of rfl (r := r') (by simp [updH]) e4 (by rw [e1]; rfl) e6 (by rw [e2]; exact hd1) (by rw [e3]; exact hd2) hm ?_
      intro kb
      simp (maxSteps := 4000000) only [e1, e2, e3, go_sem, ↓upXAbsY, ↓upXAbsZa, ↓upXOffC, hk0, hk1, hk2, hk3]
      refine ⟨⟨by omega, by omega, row_ok rfl (hrow ▸ ones_it _)⟩, inK_of (by omega) (by omega), i + 1, hlt, by omega, rfl, ?_⟩
      refine HpLe.upd (HpLe.upd (HpLe.upd HpLe.none ⟨_, ?_, ObjLe.refl _⟩) ⟨_, ?_, objLe_arr fun j hj => snoc (f := fun k => encIt (el (r.chain h.share) k)) rfl hrow hj⟩) ⟨_, updH_same _ _ _, ?_⟩
      · simp (maxSteps := 4000000) only [go_sem, ↓upXAbsY, ↓upXAbsZa, ↓upXOffC, hk0, hk1, hk2, hk3]
      · simp (maxSteps := 4000000) only [go_sem, ↓upXAbsY, ↓upXAbsZa, ↓upXOffC, hk0, hk1, hk2, hk3]
      · first | (rw [loop_eta rfl rfl rfl e4 e5]; exact ObjLe.refl _) | (rw [loop_eta e1 e2 e3 e4 e5]; exact ObjLe.refl _)
    · have hd : decide ((i : Int) < (r.flights.length : Int)) = false := by simp; omega
      obtain rfl : i = r.flights.length := by omega
      rw [← hq0]
      clear hq0
      simp (maxSteps := 4000000) only [go_sem, ↓upXAbsY, ↓upXAbsZa, ↓upXOffC, hd, hk0, e4, e5, pendP_none, Nat.zero_add]
      have hlen : r.flights.length = (r.chain h.share).length := by unfold Reg.chain; rw [List.length_map]
      rw [← hlen]
      exact VEnt.sl fun k hk => frzRow_pu (ones_it _).pu

theorem oLevel_ok : Holds Proofs.Tryz.prog G0 174 levelC := by
  refine Holds.of_exC D174 Proofs.Tryz.func174 rfl foll (by kernel_rfl) (tab [(56, chainC), (58, numberC), (iceKey 3, iceC)]) (tab_ok ⟨oChain_ok, oNumber_ok, ice_holds, trivial⟩) G0_ok fun k0 rl args hpu hpre => ?_
  unfold levelC at hpre ⊢
  obtain ⟨r, h, rfl, hc⟩ := hpre
  simp only [arg_0, arg_1, cellsOf_cptr, cellsOf_agg, dec_reg, dec_ho]
  simp only [Proofs.Tryz.f174]
  rw [enter_mkT (Nat.le_of_ble_eq_true rfl)]
  simp (maxSteps := 4000000) only [go_sem, ↓upXAbsY, ↓upXAbsZa, ↓upXOffC, encHo]
  exact ⟨⟨r, h, rfl, hc⟩, ⟨_, rfl, its_ok hc⟩, VEnt.of_eq rfl⟩

end Go.Fly.Tryz
