/- How much a wall is higher than a path. -/
import Derived.Test.YtfpoimbidpojnaaGreatDoorSYZEA
import Derived.Test.YtfpoimbidpojnaaGreatDoorAO
set_option linter.unusedSimpArgs false
set_option linter.unusedVariables false
set_option maxRecDepth 100000
set_option maxHeartbeats 2000000
namespace Go.Fly.Tryz
open Go

theorem cut_cases (p q : Int) : ∃ c1 c2 : Bool, (decide (cmpE p 0 = 1) && decide (cmpE q 0 = -1)) = c1 ∧ (decide (cmpE p 0 = -1) && decide (cmpE q 0 = 1)) = c2 ∧
    ((c1 = false ∧ c2 = false ∧ oppo p q = false) ∨ (c1 = true ∧ oppo p q = true) ∨ (c1 = false ∧ c2 = true ∧ oppo p q = true)) := by
  refine ⟨_, _, rfl, rfl, ?_⟩
  unfold cmpE oppo
  rcases Int.lt_trichotomy p 0 with h | h | h <;> rcases Int.lt_trichotomy q 0 with h2 | h2 | h2 <;> (try subst h) <;> (try subst h2) <;> simp [*] <;> omega

theorem same_cases (a b : Int) : ∃ a1 a2 b1 b2 : Bool, decide (0 < a) = a1 ∧ decide (a < 0) = a2 ∧ decide (0 < b) = b1 ∧ decide (b < 0) = b2 ∧
    ((a1 = true ∧ b1 = true ∧ sameS a b = true) ∨ (a1 = false ∧ a2 = true ∧ b2 = true ∧ sameS a b = true) ∨ (a1 = true ∧ a2 = false ∧ b1 = false ∧ sameS a b = false) ∨ (a1 = false ∧ a2 = true ∧ b2 = false ∧ sameS a b = false) ∨ (a1 = false ∧ a2 = false ∧ sameS a b = false)) := by
  refine ⟨_, _, _, _, rfl, rfl, rfl, rfl, ?_⟩
  unfold sameS
  rcases Int.lt_trichotomy a 0 with h | h | h <;> rcases Int.lt_trichotomy b 0 with h2 | h2 | h2 <;> (try subst h) <;> (try subst h2) <;> simp [*] <;> omega

theorem tExcess_ok : Holds Proofs.Tryz.prog G0 81 excessC := by
  refine Holds.of_exC D81 Proofs.Tryz.func81 rfl foll (by kernel_rfl) (tab [(76, absC), (77, wsideC), (78, wholeC), (80, besideC), (97, cmpC), (iceKey 3, iceC), (iceKey 4, iceC), (iceKey 5, iceC)]) (tab_ok ⟨tAbs_ok, tSide_ok, tWhole_ok, tBeside_ok, cCmp_ok, ice_holds, ice_holds, ice_holds, trivial⟩) G0_ok fun k0 rl args hpu hpre => ?_
  unfold excessC at hpre ⊢
  split at hpre
  rotate_left
  · exact hpre.elim
  rename_i nm ax ay bx ky h ec sx sy sz tx ty tz den
  obtain ⟨hw, hs, h5, h6, h7, h8, h9⟩ := hpre
  have b := exc_bd hw.p1 hw.p2 hw.p3 hw.p4 hw.high hs h5 h6 h7 h8 h9
  have hwo := hw
  obtain ⟨w0, w1, w2, w3, w4, w5, w6, w7⟩ := hw
  have hso := hs
  obtain ⟨s1, s2, s3⟩ := hs
  have sb1 := (side_bd w1 w2 w3 w4 (px := sx) (py := sy) (den := 1) (by omega) (by omega) (by omega) (by omega)).2.2.2.2
  have sb2 := (side_bd w1 w2 w3 w4 h5 h6 h7 h8).2.2.2.2
  obtain ⟨P, hP⟩ : ∃ P, sideE ax ay bx ky sx sy 1 = P := ⟨_, rfl⟩
  obtain ⟨Q, hQ⟩ : ∃ Q, sideE ax ay bx ky tx ty den = Q := ⟨_, rfl⟩
  obtain ⟨A, hA⟩ : ∃ A, besideE sx sy tx ty den ax ay = A := ⟨_, rfl⟩
  obtain ⟨B, hB⟩ : ∃ B, besideE sx sy tx ty den bx ky = B := ⟨_, rfl⟩
  have hcut : cutB ax ay bx ky sx sy tx ty den = (oppo P Q && !sameS A B) := by unfold cutB; rw [hP, hQ, hA, hB]
  have hden : excDen ax ay bx ky sx sy tx ty den = absE P * den + absE Q := by unfold excDen; rw [hP, hQ]
  have hnum : excNum ax ay bx ky h sx sy sz tx ty tz den = h * (absE P * den + absE Q) - absE Q * sz - absE P * tz := by unfold excNum; rw [hden, hP, hQ]
  have hexc : excB ax ay bx ky h sx sy sz tx ty tz den = (oppo P Q && !sameS A B && decide (0 < h * (absE P * den + absE Q) - absE Q * sz - absE P * tz)) := by unfold excB; rw [hcut, hnum]
  rw [hP, hQ, hden, hcut] at b
  rw [hP] at sb1
  rw [hQ] at sb2
  have b1 := b.1
  have b2 := b.2.1
  have b3 := b.2.2.1
  have b4 := b.2.2.2.1
  have b5 := b.2.2.2.2.1
  clear b
  obtain ⟨c1, c2, hc1, hc2, hcc⟩ := cut_cases P Q
  obtain ⟨a1, a2, e1, e2, ha1, ha2, he1, he2, hab⟩ := same_cases A B
  have pre1 : (WallOk nm ax ay bx ky h ec ∧ (-1000 ≤ sx ∧ sx ≤ 1000) ∧ -1000 ≤ sy ∧ sy ≤ 1000) := ⟨hwo, s1, s2⟩
  have pre2 : (WallOk nm ax ay bx ky h ec ∧ 0 < den ∧ den ≤ 20000000 ∧ (-(1000 * den) ≤ tx ∧ tx ≤ 1000 * den) ∧ -(1000 * den) ≤ ty ∧ ty ≤ 1000 * den) := ⟨hwo, h5, h6, h7, h8⟩
  have o1 : 0 < (1:Int) := by decide
  have fin : ∀ {c : Bool} {x : Int}, c = true → (if c = true then x else 0) = x := fun h => by rw [if_pos h]
  rcases hcc with ⟨rfl, rfl, ho⟩ | hcc
  · simp only [Proofs.Tryz.f81]
    rw [enter_mkT (Nat.le_of_ble_eq_true rfl)]
    simp (maxSteps := 4000000) only [go_sem, ↓op_move, ↓op_assign, ↓op_pick, ↓op_alloc, ↓op_box, ↓op_build, ↓op_buildSlice, ↓op_load, ↓op_store, ↓op_nilCheck, ↓op_bin, ↓op_un, ↓op_convert, ↓op_makeFunc, ↓op_makeSlice, ↓op_slice, ↓op_fieldAddr, ↓op_field, ↓op_indexAddr, ↓op_index, ↓op_extract, ↓op_lookup, ↓op_mapUpdate, ↓op_makeMap, ↓op_range, ↓op_next, ↓op_call, ↓op_builtin, ↓g_tt, ↓g_ff, ↓g_tf, ↓g_ft, ↓g_tnt, ↓g_tnf, ↓g_fnt, ↓g_fnf, ↓mkT_getD, hP, hQ, hc1, hc2]
    refine ⟨pre1, pre2, VEnt.of_eq ?_⟩
    rw [hexc, hcut, ho]
    simp
  · have ho : oppo P Q = true := by rcases hcc with ⟨_, h⟩ | ⟨_, _, h⟩ <;> exact h
    rcases hcc with ⟨rfl, _⟩ | ⟨rfl, rfl, _⟩ <;> rcases hab with ⟨rfl, rfl, hs⟩ | ⟨rfl, rfl, rfl, hs⟩ | ⟨rfl, rfl, rfl, hs⟩ | ⟨rfl, rfl, rfl, hs⟩ | ⟨rfl, rfl, hs⟩
    all_goals
      simp only [Proofs.Tryz.f81]
      rw [enter_mkT (Nat.le_of_ble_eq_true rfl)]
      simp (maxSteps := 4000000) only [go_sem, ↓op_move, ↓op_assign, ↓op_pick, ↓op_alloc, ↓op_box, ↓op_build, ↓op_buildSlice, ↓op_load, ↓op_store, ↓op_nilCheck, ↓op_bin, ↓op_un, ↓op_convert, ↓op_makeFunc, ↓op_makeSlice, ↓op_slice, ↓op_fieldAddr, ↓op_field, ↓op_indexAddr, ↓op_index, ↓op_extract, ↓op_lookup, ↓op_mapUpdate, ↓op_makeMap, ↓op_range, ↓op_next, ↓op_call, ↓op_builtin, ↓g_tt, ↓g_ff, ↓g_tf, ↓g_ft, ↓g_tnt, ↓g_tnf, ↓g_fnt, ↓g_fnf, ↓mkT_getD, hP, hQ, hA, hB, hc1, hc2, ha1, ha2, he1, he2]
      refine ⟨pre1, pre2, ⟨h5, h6, ⟨by omega, by omega⟩, ⟨by omega, by omega⟩, h7, h8, w1, w2⟩, ⟨h5, h6, ⟨by omega, by omega⟩, ⟨by omega, by omega⟩, h7, h8, w3, w4⟩, ?_⟩
      first
        | refine ⟨⟨by omega, by omega⟩, ⟨by omega, by omega⟩, inK_of (by omega) (by omega), inK_of (by omega) (by omega), inK_of (by omega) (by omega), inK_of (by omega) (by omega), inK_of (by omega) (by omega), inK_of (by omega) (by omega), inK_of (by omega) (by omega), VEnt.of_eq ?_⟩
          rw [hexc, hcut, hnum, hden, ho, hs]
          simp
        | refine VEnt.of_eq ?_
          rw [hexc, hcut, ho, hs]
          simp
end Go.Fly.Tryz
