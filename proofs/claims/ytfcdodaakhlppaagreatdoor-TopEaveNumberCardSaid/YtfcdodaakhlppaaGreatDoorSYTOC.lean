/- The office: what is matched, listed, offered. -/
import Derived.Test.YtfcdodaakhlppaaGreatDoorSYTOB
import Derived.Test.YtfcdodaakhlppaaGreatDoorAK
set_option linter.unusedSimpArgs false
set_option linter.unusedVariables false
set_option maxRecDepth 100000
set_option maxHeartbeats 1000000
namespace Go.Fly.Tryz
open Go Off

theorem oIsM_ok : Holds Proofs.Tryz.prog G0 165 (flB (fun f => decide (f.heard ≠ -1))) := by
  refine Holds.of_exC D165 Proofs.Tryz.func165 rfl foll (by kernel_rfl) (tab [(iceKey 1, iceC)]) (tab_ok ⟨ice_holds, trivial⟩) G0_ok fun k0 rl args hpu hpre => ?_
  unfold flB at hpre ⊢
  obtain ⟨f, rfl⟩ := hpre
  simp only [arg_0, cellsOf_agg, dec_fl]
  simp only [Proofs.Tryz.f165]
  rw [enter_mkT (Nat.le_of_ble_eq_true rfl)]
  simp (maxSteps := 4000000) only [go_sem, ↓upXAbsY, ↓upXAbsZa, ↓upXOffC, encFl]
  exact VEnt.of_eq (by by_cases h : f.heard = -1 <;> simp [h])

theorem oMatched1_ok : Holds Proofs.Tryz.prog G0 231 flTypeC := by
  refine Holds.of_exC D231 Proofs.Tryz.func231 rfl foll (by kernel_rfl) (tab [(iceKey 2, iceC)]) (tab_ok ⟨ice_holds, trivial⟩) G0_ok fun k0 rl args hpu hpre => ?_
  unfold flTypeC at hpre ⊢
  obtain ⟨f, s, rfl⟩ := hpre
  simp only [arg_0, arg_1, cellsOf_agg, cellsOf_cptr, dec_fl]
  simp only [Proofs.Tryz.f231]
  rw [enter_mkT (Nat.le_of_ble_eq_true rfl)]
  simp (maxSteps := 4000000) only [go_sem, ↓upXAbsY, ↓upXAbsZa, ↓upXOffC, encFl]
  exact VEnt.of_eq rfl

theorem oKeptFl_ok : Holds Proofs.Tryz.prog G0 230 (keptFlC 165 231) := by
  refine Holds.of_exC D230 Proofs.Tryz.func230 rfl foll (by kernel_rfl) (tab [(165, flB (fun f => decide (f.heard ≠ -1))), (231, flTypeC)]) (tab_ok ⟨oIsM_ok, oMatched1_ok, trivial⟩) G0_ok fun k0 rl args hpu hpre => ?_
  unfold keptFlC at hpre ⊢
  obtain ⟨l, p, rfl, hl⟩ := hpre
  simp only [arg_0, arg_1, dec_fls]
  have hgo : ∀ (q : Fl → Bool) (i : Nat), ((l.take i).filter q).length ≤ i := fun q i => Nat.le_trans (List.length_filter_le _ _) (by rw [List.length_take]; omega)
  cases p with
  | none =>
    simp only [keptV, keptF_nil]
    generalize hq : (fun f : Fl => decide (f.heard ≠ -1)) = q
    simp only [Proofs.Tryz.f230]
    rw [enter_mkT (Nat.le_of_ble_eq_true rfl)]
    simp (maxSteps := 4000000) only [go_sem, ↓upXAbsY, ↓upXAbsZa, ↓upXOffC, encRows, encFl]
    refine RestT.ents (Ents.nilArr (d := 5) (l := (4, 1000)) 5 (fun _ => []) rfl rfl rfl) ?_
    simp (maxSteps := 4000000) only [go_sem, ↓upXAbsY, ↓upXAbsZa, ↓upXOffC]
    refine RestT.loopF (β := Nat) [(5, 5), (7, 7), (10, 21)] (fun i => [(5, .msl (4, 1000) 0 ((l.take i).filter q).length), (10, .int .i64 i)]) (fun i => updH (fun _ => none) (4, 1000) (.arr ((l.take i).filter q).length 5 (fun j => encFl (el ((l.take i).filter q) j)))) (fun i => i ≤ l.length) (fun i => l.length - i) 0 (Nat.zero_le _) ?_ (HpLe.arr1 (updH_same _ _ _) rfl rfl fun i hi => by simp at hi) ?_
    · simp (maxSteps := 4000000) only [go_sem, ↓upXAbsY, ↓upXAbsZa, ↓upXOffC]
      try simp
    · intro ck i hck hi
      have hgi := hgo q i
      have hi : i ≤ l.length := hi
      generalize hq0 : exC _ _ _ _ _ = gg
      by_cases hlt : i < l.length
      · have hd : decide ((i : Int) < (l.length : Int)) = true := by simp; omega
        rw [← hq0]
        clear hq0
        simp (maxSteps := 4000000) only [go_sem, ↓upXAbsY, ↓upXAbsZa, ↓upXOffC, hd, encRows, encFl]
        refine ⟨⟨by omega, by omega⟩, ⟨el l i, rfl⟩, fun h => ?_, fun h => ?_⟩
        · have hqi : q (el l i) = true := by rw [← hq]; first | (rw [← hq] at h; exact h) | exact decide_eq_true h
          have hly : ((l.take i).filter q).length + 1 = ((l.take (i + 1)).filter q).length := by rw [filter_yes hlt hqi, List.length_append]; rfl
          exact ⟨⟨by omega, by omega, row_ok rfl (ones_fl (el l i))⟩, inK_of (by omega) (by omega), i + 1, hlt, by omega, ⟨by rw [hly], rfl⟩, HpLe.arr1 (updH_same _ _ _) hly rfl fun j hj => by rw [filter_yes hlt hqi]; exact snocE (f := encFl) rfl rfl hj⟩
        · have hqi : q (el l i) = false := by rw [← hq]; first | (rw [← hq] at h; exact h) | exact decide_eq_false h
          have hly := filter_no hlt hqi
          exact ⟨inK_of (by omega) (by omega), i + 1, hlt, by omega, ⟨by rw [hly], rfl⟩, HpLe.arr1 (by simp [updH]; exact ⟨rfl, rfl⟩) (by rw [hly]) rfl fun j hj => by rw [hly]⟩
      · have hd : decide ((i : Int) < (l.length : Int)) = false := by simp; omega
        obtain rfl : i = l.length := by omega
        rw [← hq0]
        clear hq0
        simp (maxSteps := 4000000) only [go_sem, ↓upXAbsY, ↓upXAbsZa, ↓upXOffC, hd, Nat.zero_add, encRows]
        rw [List.take_length]
        exact VEnt.refl _
  | some s =>
    simp only [keptV, keptF_one]
    generalize hq : (fun f : Fl => decide (f.type = s)) = q
    simp only [Proofs.Tryz.f230]
    rw [enter_mkT (Nat.le_of_ble_eq_true rfl)]
    simp (maxSteps := 4000000) only [go_sem, ↓upXAbsY, ↓upXAbsZa, ↓upXOffC, encRows, encFl]
    refine RestT.ents (Ents.nilArr (d := 5) (l := (4, 1000)) 5 (fun _ => []) rfl rfl rfl) ?_
    simp (maxSteps := 4000000) only [go_sem, ↓upXAbsY, ↓upXAbsZa, ↓upXOffC]
    refine RestT.loopF (β := Nat) [(5, 5), (7, 7), (10, 21)] (fun i => [(5, .msl (4, 1000) 0 ((l.take i).filter q).length), (10, .int .i64 i)]) (fun i => updH (fun _ => none) (4, 1000) (.arr ((l.take i).filter q).length 5 (fun j => encFl (el ((l.take i).filter q) j)))) (fun i => i ≤ l.length) (fun i => l.length - i) 0 (Nat.zero_le _) ?_ (HpLe.arr1 (updH_same _ _ _) rfl rfl fun i hi => by simp at hi) ?_
    · simp (maxSteps := 4000000) only [go_sem, ↓upXAbsY, ↓upXAbsZa, ↓upXOffC]
      try simp
    · intro ck i hck hi
      have hgi := hgo q i
      have hi : i ≤ l.length := hi
      generalize hq0 : exC _ _ _ _ _ = gg
      by_cases hlt : i < l.length
      · have hd : decide ((i : Int) < (l.length : Int)) = true := by simp; omega
        rw [← hq0]
        clear hq0
        simp (maxSteps := 4000000) only [go_sem, ↓upXAbsY, ↓upXAbsZa, ↓upXOffC, hd, encRows, encFl]
        refine ⟨⟨by omega, by omega⟩, ⟨el l i, s, rfl⟩, fun h => ?_, fun h => ?_⟩
        · have hqi : q (el l i) = true := by rw [← hq]; first | (rw [← hq] at h; exact h) | exact decide_eq_true h
          have hly : ((l.take i).filter q).length + 1 = ((l.take (i + 1)).filter q).length := by rw [filter_yes hlt hqi, List.length_append]; rfl
          exact ⟨⟨by omega, by omega, row_ok rfl (ones_fl (el l i))⟩, inK_of (by omega) (by omega), i + 1, hlt, by omega, ⟨by rw [hly], rfl⟩, HpLe.arr1 (updH_same _ _ _) hly rfl fun j hj => by rw [filter_yes hlt hqi]; exact snocE (f := encFl) rfl rfl hj⟩
        · have hqi : q (el l i) = false := by rw [← hq]; first | (rw [← hq] at h; exact h) | exact decide_eq_false h
          have hly := filter_no hlt hqi
          exact ⟨inK_of (by omega) (by omega), i + 1, hlt, by omega, ⟨by rw [hly], rfl⟩, HpLe.arr1 (by simp [updH]; exact ⟨rfl, rfl⟩) (by rw [hly]) rfl fun j hj => by rw [hly]⟩
      · have hd : decide ((i : Int) < (l.length : Int)) = false := by simp; omega
        obtain rfl : i = l.length := by omega
        rw [← hq0]
        clear hq0
        simp (maxSteps := 4000000) only [go_sem, ↓upXAbsY, ↓upXAbsZa, ↓upXOffC, hd, Nat.zero_add, encRows]
        rw [List.take_length]
        exact VEnt.refl _

theorem oMatched_ok : Holds Proofs.Tryz.prog G0 168 matchedC := by
  refine Holds.of_exC D168 Proofs.Tryz.func168 rfl foll (by kernel_rfl) (tab [(165, flB (fun f => decide (f.heard ≠ -1))), (230, keptFlC 165 231), (231, flTypeC), (iceKey 3, iceC)]) (tab_ok ⟨oIsM_ok, oKeptFl_ok, oMatched1_ok, ice_holds, trivial⟩) G0_ok fun k0 rl args hpu hpre => ?_
  unfold matchedC at hpre ⊢
  obtain ⟨r, s, rfl, hr⟩ := hpre
  simp only [arg_0, arg_1, cellsOf_cptr, dec_reg, strOf_str]
  simp only [Proofs.Tryz.f168]
  rw [enter_mkT (Nat.le_of_ble_eq_true rfl)]
  simp (maxSteps := 4000000) only [go_sem, ↓upXAbsY, ↓upXAbsZa, ↓upXOffC]
  exact ⟨⟨_, none, rfl, hr.flights⟩, ⟨_, some s, rfl, Nat.le_trans (List.length_filter_le _ _) hr.flights⟩, VEnt.of_eq (by rw [← matched_eq])⟩

theorem oFlies_ok : Holds Proofs.Tryz.prog G0 186 fliesC := by
  refine Holds.of_exC D186 Proofs.Tryz.func186 rfl foll (by kernel_rfl) (tab []) (tab_ok trivial) G0_ok fun k0 rl args hpu hpre => ?_
  unfold fliesC at hpre ⊢
  obtain ⟨r, d, rfl, hr⟩ := hpre
  simp only [arg_0, arg_1, cellsOf_cptr, dec_reg, intOf_int]
  have hfl := hr.flights
  simp only [Proofs.Tryz.f186]
  rw [enter_mkT (Nat.le_of_ble_eq_true rfl)]
  simp (maxSteps := 4000000) only [go_sem, ↓upXAbsY, ↓upXAbsZa, ↓upXOffC, encRows, encFl]
  refine RestT.loopF (β := Nat) [(5, 5), (7, 7), (13, 21)] (fun i => [(5, .bool false), (13, .int .i64 i)]) (fun _ => fun _ => none) (fun i => i ≤ r.flights.length ∧ ∀ j, j < i → decide ((el r.flights j).day = d) = false) (fun i => r.flights.length - i) 0 ⟨Nat.zero_le _, fun j hj => by omega⟩ ?_ HpLe.none ?_
  · simp (maxSteps := 4000000) only [go_sem, ↓upXAbsY, ↓upXAbsZa, ↓upXOffC]
    try simp
  · intro ck i hck hI
    obtain ⟨hi, hb⟩ := hI
    generalize hq0 : exC _ _ _ _ _ = gg
    by_cases hlt : i < r.flights.length
    · have hd : decide ((i : Int) < (r.flights.length : Int)) = true := by simp; omega
      rw [← hq0]
      clear hq0
      simp (maxSteps := 4000000) only [go_sem, ↓upXAbsY, ↓upXAbsZa, ↓upXOffC, hd, encRows, encFl]
      refine ⟨⟨by omega, by omega⟩, fun h => ?_, fun h => ⟨inK_of (by omega) (by omega), i + 1, ⟨hlt, fun j hj => ?_⟩, by omega, ?_, HpLe.none⟩⟩
      · exact VEnt.of_eq (by unfold Reg.flies; rw [any_step hlt hb (decide_eq_true h)])
      · by_cases e : j = i
        · subst e; exact h
        · exact of_decide_eq_false (hb j (by omega))
      · rfl
    · have hd : decide ((i : Int) < (r.flights.length : Int)) = false := by simp; omega
      obtain rfl : i = r.flights.length := by omega
      rw [← hq0]
      clear hq0
      simp (maxSteps := 4000000) only [go_sem, ↓upXAbsY, ↓upXAbsZa, ↓upXOffC, hd]
      exact VEnt.of_eq (by unfold Reg.flies; rw [any_none hb])

theorem oListed_ok : Holds Proofs.Tryz.prog G0 207 listedC := by
  refine Holds.of_exC D207 Proofs.Tryz.func207 rfl foll (by kernel_rfl) (tab [(66, indexC)]) (tab_ok ⟨oIndex_ok, trivial⟩) G0_ok fun k0 rl args hpu hpre => ?_
  unfold listedC at hpre ⊢
  obtain ⟨r, s, rfl, hr, hs, hlast⟩ := hpre
  simp only [arg_0, arg_1, cellsOf_cptr, dec_reg, strOf_str]
  have hix := idx_in hs
  have hm := hr.maps
  by_cases h0 : r.maps.length = 0
  · have d0 : decide ((r.maps.length : Int) = 0) = true := decide_eq_true (by omega)
    simp only [Proofs.Tryz.f207]
    rw [enter_mkT (Nat.le_of_ble_eq_true rfl)]
    simp (maxSteps := 4000000) only [go_sem, ↓upXAbsY, ↓upXAbsZa, ↓upXOffC, hix, encRows, encMp, encInts, d0]
    exact VEnt.of_eq (by rw [listed_none h0]; rfl)
  · have d0 : decide ((r.maps.length : Int) = 0) = false := decide_eq_false (by omega)
    have dn : ((r.maps.length : Int) - 1).toNat = r.maps.length - 1 := by omega
    obtain ⟨m, hmm⟩ : ∃ m, el r.maps (r.maps.length - 1) = m := ⟨_, rfl⟩
    have hlm : m.levels.length ≤ 1000000 := hlast m (by rw [last_el (by omega), hmm])
    have hls : r.listed s = m.levels[place (r.namesOf 104) s]? := by rw [listed_some (by omega), hmm]
    have hpl := place_lt hs
    by_cases h1 : m.levels.length ≤ place (r.namesOf 104) s
    · have d1 : decide ((m.levels.length : Int) ≤ (place (r.namesOf 104) s : Int)) = true := decide_eq_true (by omega)
      simp only [Proofs.Tryz.f207]
      rw [enter_mkT (Nat.le_of_ble_eq_true rfl)]
      simp (maxSteps := 4000000) only [go_sem, ↓upXAbsY, ↓upXAbsZa, ↓upXOffC, hix, encRows, encMp, encInts, d0, dn, hmm, d1]
      refine ⟨inK_of (by omega) (by omega), ⟨by omega, by omega⟩, ⟨r, 104, s, rfl, hr⟩, VEnt.of_eq ?_⟩
      rw [hls, List.getElem?_eq_none h1]; rfl
    · have d1 : decide ((m.levels.length : Int) ≤ (place (r.namesOf 104) s : Int)) = false := decide_eq_false (by omega)
      simp only [Proofs.Tryz.f207]
      rw [enter_mkT (Nat.le_of_ble_eq_true rfl)]
      simp (maxSteps := 4000000) only [go_sem, ↓upXAbsY, ↓upXAbsZa, ↓upXOffC, hix, encRows, encMp, encInts, d0, dn, hmm, d1, Int.toNat_natCast]
      refine ⟨inK_of (by omega) (by omega), ⟨by omega, by omega⟩, ⟨r, 104, s, rfl, hr⟩, ⟨by omega, by omega⟩, VEnt.of_eq ?_⟩
      rw [hls, List.getElem?_eq_getElem (by omega), ← el_get _ (by omega)]; rfl

theorem oLoud_ok : Holds Proofs.Tryz.prog G0 116 loudC := by
  refine Holds.of_exC D116 Proofs.Tryz.func116 rfl foll (by kernel_rfl) (tab [(207, listedC)]) (tab_ok ⟨oListed_ok, trivial⟩) G0_ok fun k0 rl args hpu hpre => ?_
  unfold loudC at hpre ⊢
  obtain ⟨r, s, rfl, hr, hs, hlast⟩ := hpre
  simp only [arg_0, arg_1, cellsOf_cptr, dec_reg, strOf_str]
  cases hL : r.listed s with
  | none =>
    simp only [Proofs.Tryz.f116]
    rw [enter_mkT (Nat.le_of_ble_eq_true rfl)]
    simp (maxSteps := 4000000) only [go_sem, ↓upXAbsY, ↓upXAbsZa, ↓upXOffC, hL, optV]
    exact ⟨⟨r, s, rfl, hr, hs, hlast⟩, VEnt.of_eq (by simp [Reg.isLoud, hL])⟩
  | some n =>
    simp only [Proofs.Tryz.f116]
    rw [enter_mkT (Nat.le_of_ble_eq_true rfl)]
    simp (maxSteps := 4000000) only [go_sem, ↓upXAbsY, ↓upXAbsZa, ↓upXOffC, hL, optV]
    exact ⟨⟨r, s, rfl, hr, hs, hlast⟩, VEnt.of_eq (by simp [Reg.isLoud, hL])⟩

theorem oHas1_ok : Holds Proofs.Tryz.prog G0 209 ofHouseC := by
  refine Holds.of_exC D209 Proofs.Tryz.func209 rfl foll (by kernel_rfl) (tab [(iceKey 2, iceC)]) (tab_ok ⟨ice_holds, trivial⟩) G0_ok fun k0 rl args hpu hpre => ?_
  unfold ofHouseC at hpre ⊢
  obtain ⟨f, s, rfl⟩ := hpre
  simp only [arg_0, arg_1, cellsOf_agg, cellsOf_cptr, dec_of]
  simp only [Proofs.Tryz.f209]
  rw [enter_mkT (Nat.le_of_ble_eq_true rfl)]
  simp (maxSteps := 4000000) only [go_sem, ↓upXAbsY, ↓upXAbsZa, ↓upXOffC, encOf]
  exact VEnt.of_eq rfl

theorem sIdxOf_ok : Holds Proofs.Tryz.prog G0 237 (idxOfC 209) := by
  refine Holds.of_exC D237 Proofs.Tryz.func237 rfl foll (by kernel_rfl) (tab [(209, ofHouseC)]) (tab_ok ⟨oHas1_ok, trivial⟩) G0_ok fun k0 rl args hpu hpre => ?_
  unfold idxOfC at hpre ⊢
  obtain ⟨l, s, rfl, hl⟩ := hpre
  simp only [arg_0, arg_1, dec_ofs, capS_one]
  simp only [Proofs.Tryz.f237]
  rw [enter_mkT (Nat.le_of_ble_eq_true rfl)]
  simp (maxSteps := 4000000) only [go_sem, ↓upXAbsY, ↓upXAbsZa, ↓upXOffC, encRows, encOf]
  refine RestT.loopF (β := Nat) [(4, 5), (8, 18)] (fun i => [(8, .int .i64 i)]) (fun _ => fun _ => none) (fun i => i ≤ l.length ∧ ∀ j, j < i → decide ((el l j).house = s) = false) (fun i => l.length - i) 0 ⟨Nat.zero_le _, fun j hj => by omega⟩ ?_ HpLe.none ?_
  · simp (maxSteps := 4000000) only [go_sem, ↓upXAbsY, ↓upXAbsZa, ↓upXOffC]
    try simp
  · intro ck i hck hI
    obtain ⟨hi, hb⟩ := hI
    generalize hq0 : exC _ _ _ _ _ = gg
    by_cases hlt : i < l.length
    · have hd : decide ((i : Int) < (l.length : Int)) = true := by simp; omega
      rw [← hq0]
      clear hq0
      simp (maxSteps := 4000000) only [go_sem, ↓upXAbsY, ↓upXAbsZa, ↓upXOffC, hd, encRows, encOf]
      refine ⟨⟨by omega, by omega⟩, ⟨el l i, s, rfl⟩, fun h => VEnt.of_eq (by rw [ofIdx_yes hlt hb (decide_eq_true h)]), fun h => ⟨inK_of (by omega) (by omega), i + 1, ⟨hlt, fun j hj => ?_⟩, by omega, rfl, HpLe.none⟩⟩
      by_cases e : j = i
      · subst e; exact h
      · exact of_decide_eq_false (hb j (by omega))
    · have hd : decide ((i : Int) < (l.length : Int)) = false := by simp; omega
      obtain rfl : i = l.length := by omega
      rw [← hq0]
      clear hq0
      simp (maxSteps := 4000000) only [go_sem, ↓upXAbsY, ↓upXAbsZa, ↓upXOffC, hd]
      exact VEnt.of_eq (by rw [ofIdx_no hb])

theorem sAnyOf_ok : Holds Proofs.Tryz.prog G0 208 (anyOfC 209) := by
  refine Holds.of_exC D208 Proofs.Tryz.func208 rfl foll (by kernel_rfl) (tab [(237, idxOfC 209)]) (tab_ok ⟨sIdxOf_ok, trivial⟩) G0_ok fun k0 rl args hpu hpre => ?_
  unfold anyOfC at hpre ⊢
  obtain ⟨l, s, rfl, hl⟩ := hpre
  simp only [arg_0, arg_1, dec_ofs, capS_one]
  simp only [Proofs.Tryz.f208]
  rw [enter_mkT (Nat.le_of_ble_eq_true rfl)]
  simp (maxSteps := 4000000) only [go_sem, ↓upXAbsY, ↓upXAbsZa, ↓upXOffC]
  exact ⟨⟨l, s, rfl, hl⟩, VEnt.of_eq (by rw [ofIdx_nonneg])⟩

theorem oHas_ok : Holds Proofs.Tryz.prog G0 117 hasOfferC := by
  refine Holds.of_exC D117 Proofs.Tryz.func117 rfl foll (by kernel_rfl) (tab [(208, anyOfC 209), (209, ofHouseC), (iceKey 3, iceC)]) (tab_ok ⟨sAnyOf_ok, oHas1_ok, ice_holds, trivial⟩) G0_ok fun k0 rl args hpu hpre => ?_
  unfold hasOfferC at hpre ⊢
  obtain ⟨r, s, rfl, hr⟩ := hpre
  simp only [arg_0, arg_1, cellsOf_cptr, dec_reg, strOf_str]
  simp only [Proofs.Tryz.f117]
  rw [enter_mkT (Nat.le_of_ble_eq_true rfl)]
  simp (maxSteps := 4000000) only [go_sem, ↓upXAbsY, ↓upXAbsZa, ↓upXOffC]
  exact ⟨⟨_, s, rfl, hr.offers⟩, VEnt.of_eq rfl⟩
end Go.Fly.Tryz
