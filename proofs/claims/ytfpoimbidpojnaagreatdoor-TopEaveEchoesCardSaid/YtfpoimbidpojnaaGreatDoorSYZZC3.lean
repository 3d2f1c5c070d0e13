/- Walls that reflect: one wall, a way to the loop. -/
import Derived.Test.YtfpoimbidpojnaaGreatDoorSYZZP
import Derived.Test.YtfpoimbidpojnaaGreatDoorAW
set_option linter.unusedSimpArgs false
set_option linter.unusedVariables false
set_option maxRecDepth 100000
set_option maxHeartbeats 4000000
namespace Go.Fly.Tryz
open Go

theorem rRefl3_ok : Holds Proofs.Tryz.prog G0 55 (reflCp (loopP 2)) := by
  refine Holds.of_exC D55 Proofs.Tryz.func55 rfl foll (by kernel_rfl) (tab [(76, absC), (77, wside5C), (78, wholeC), (79, wimgC), (80, beside5C), (81, excess5C), (82, partC), (84, apart5C), (iceKey 6, iceC), (iceKey 7, iceC)]) (tab_ok ⟨tAbs_ok, tSide5_ok, tWhole_ok, tImg_ok, tBeside5_ok, tExcess5_ok, rPart_ok, tApart5_ok, ice_holds, ice_holds, trivial⟩) G0_ok fun k0 rl args hpu hpre => ?_
  unfold reflCp at hpre ⊢
  split at hpre
  rotate_left
  · exact hpre.elim
  rename_i n sz get i sx sy sz' rx ry rz
  obtain ⟨⟨rfl, hw, hwo, ⟨hi0, hin⟩, hs, hr, hev⟩, hcase⟩ := hpre
  obtain ⟨i, rfl⟩ := Int.eq_ofNat_of_zero_le hi0
  have hin : i < n := by omega
  simp only [Int.toNat_natCast] at hev hcase
  have hp := hw.pu
  have hn63 := hw.1
  have noSl2 : ∀ {a b : Int}, NoSl (.agg [.int .i64 a, .int .i64 b]) := fun {a b} => .agg _ fun j v hv => by rcases j with _ | _ | j <;> simp at hv <;> subst hv <;> exact .int _ _
  have hwi := hwo.wall i hin
  have bd := at_bd hwi hs hr
  obtain ⟨w1, w2, w3, w4⟩ := And.intro hwi.p1 (And.intro hwi.p2 (And.intro hwi.p3 hwi.p4))
  have ib := img_bd (bx := cell get i 3) (ky := cell get i 4) w1 w2 hs.1 hs.2.1
  obtain ⟨s1, s2, s3⟩ := id hs
  obtain ⟨r1, r2, r3⟩ := id hr
  have spre : (WallOk (wName get i) (cell get i 1) (cell get i 2) (cell get i 3) (cell get i 4) (cell get i 5) (cell get i 6) ∧ (-5000 ≤ sx ∧ sx ≤ 5000) ∧ -5000 ≤ sy ∧ sy ≤ 5000) := ⟨hwi, by omega, by omega⟩
  have rpre : (WallOk (wName get i) (cell get i 1) (cell get i 2) (cell get i 3) (cell get i 4) (cell get i 5) (cell get i 6) ∧ (-5000 ≤ rx ∧ rx ≤ 5000) ∧ -5000 ≤ ry ∧ ry ≤ 5000) := ⟨hwi, by omega, by omega⟩
  obtain ⟨P, hP⟩ : ∃ P, sideE (cell get i 1) (cell get i 2) (cell get i 3) (cell get i 4) sx sy 1 = P := ⟨_, rfl⟩
  obtain ⟨Q, hQ⟩ : ∃ Q, sideE (cell get i 1) (cell get i 2) (cell get i 3) (cell get i 4) rx ry 1 = Q := ⟨_, rfl⟩
  have hPw : wsd get i sx sy = P := hP
  have hQw : wsd get i rx ry = Q := hQ
  obtain ⟨X, hX⟩ : ∃ X, imgX (cell get i 1) (cell get i 2) (cell get i 3) (cell get i 4) sx sy = X := ⟨_, rfl⟩
  obtain ⟨Y, hY⟩ : ∃ Y, imgY (cell get i 1) (cell get i 2) (cell get i 3) (cell get i 4) sx sy = Y := ⟨_, rfl⟩
  have hXw : wIx get i sx sy = X := hX
  have hYw : wIy get i sx sy = Y := hY
  obtain ⟨A, hA⟩ : ∃ A, besideE X Y rx ry 1 (cell get i 1) (cell get i 2) = A := ⟨_, rfl⟩
  obtain ⟨B, hB⟩ : ∃ B, besideE X Y rx ry 1 (cell get i 3) (cell get i 4) = B := ⟨_, rfl⟩
  have hby : wBy get i sx sy rx ry = sameS A B := by unfold wBy; rw [hXw, hYw, hA, hB]
  obtain ⟨D, hD⟩ : ∃ D, absE P + absE Q = D := ⟨_, rfl⟩
  obtain ⟨U, hU⟩ : ∃ D, absE Q * X + absE P * rx = D := ⟨_, rfl⟩
  obtain ⟨V', hV⟩ : ∃ D, absE Q * Y + absE P * ry = D := ⟨_, rfl⟩
  obtain ⟨Z, hZ⟩ : ∃ D, absE Q * sz' + absE P * rz = D := ⟨_, rfl⟩
  have eD : atD get i sx sy rx ry = D := by unfold atD; rw [hPw, hQw, hD]
  have eU : atX get i sx sy rx ry = U := by unfold atX; rw [hPw, hQw, hXw, hU]
  have eV : atY get i sx sy rx ry = V' := by unfold atY; rw [hPw, hQw, hYw, hV]
  have eZ : atZ get i sx sy sz' rx ry rz = Z := by unfold atZ; rw [hPw, hQw, hZ]
  rw [hPw, hQw, eD, hXw, hYw] at bd
  rw [hX, hY] at ib
  obtain ⟨F1, hF1⟩ : ∃ F : Nat → Bool, ∀ k, excB (cell get k 1) (cell get k 2) (cell get k 3) (cell get k 4) (cell get k 5) sx sy sz' U V' Z D = F k := ⟨_, fun _ => rfl⟩
  obtain ⟨F2, hF2⟩ : ∃ F : Nat → Bool, ∀ k, excB (cell get k 1) (cell get k 2) (cell get k 3) (cell get k 4) (cell get k 5) rx ry rz U V' Z D = F k := ⟨_, fun _ => rfl⟩
  have hhid : ∀ k, hides get i k sx sy sz' rx ry rz = (F1 k || F2 k) := fun k => by unfold hides wExc; rw [eU, eV, eZ, eD, hF1, hF2]
  obtain ⟨hgi, hnmi⟩ := hw.2 i hin
  obtain ⟨p0, p1, p2, p3, p4, p5, p6, p7⟩ := bd
  have no1 : ¬ sideP P Q → reflB n get i sx sy sz' rx ry rz = false := fun h => reflB_false fun q => h (by have := q.1; rw [hPw, hQw] at this; exact this)
  have hfz : ∀ H, frz 5 (updH H (10, 16) (.cells [.int .i64 U, .int .i64 V', .int .i64 Z, .int .i64 D])) (.ptr (10, 16) 0) = .cptr [.int .i64 U, .int .i64 V', .int .i64 Z, .int .i64 D] := fun H => by rw [frz_ptr, updH_same]; simp [frz_int]
  have hPb : -8000000 ≤ P ∧ P ≤ 8000000 := by have := p0; unfold absE at this; omega
  have hQb : -8000000 ≤ Q ∧ Q ≤ 8000000 := by have := p1; unfold absE at this; omega
  have fin0 : reflB n get i sx sy sz' rx ry rz = false → VEnt (.tup [.agg [.int .i64 0, .int .i64 0, .int .i64 0, .int .i64 0, .int .i64 0, .int .i64 0, .int .i64 0, .int .i64 0, .int .i64 0, .int .i64 0, .int .i64 0], .bool false]) (.tup [.agg (if reflB n get i sx sy sz' rx ry rz = true then mirR get sx sy sz' rx ry rz i else zero12), .bool (reflB n get i sx sy sz' rx ry rz)]) := fun h => VEnt.of_eq (by rw [h]; rfl)
  have t1 : ((!true == true) = true) = False := eq_false (by decide)
  have t2 : ((!false == false) = true) = False := eq_false (by decide)
  have t3 : ((!true == false) = true) = True := eq_true (by decide)
  have t4 : ((!false == true) = true) = True := eq_true (by decide)
  have hAw : wBa get i sx sy rx ry = A := by unfold wBa; rw [hXw, hYw, hA]
  have hBw : wBb get i sx sy rx ry = B := by unfold wBb; rw [hXw, hYw, hB]
  obtain ⟨⟨hsp, hz⟩, hor⟩ := hcase
  rw [hPw, hQw] at hsp
  rw [eZ, eD] at hz
  rw [hAw, hBw] at hor
  have hab : A = 0 := by
    rcases hor with h | h | h
    · exact absurd h.1 (by decide)
    · exact absurd h.1 (by decide)
    · exact h.2
  have ha1 : decide (0 < A) = false := decide_eq_false (by omega)
  have ha2 : decide (A < 0) = false := decide_eq_false (by omega)
  have hsm : sameS A B = false := by unfold sameS; simp; omega
  obtain ⟨bb, hc3, hc4⟩ : ∃ bb, decide (0 < P) = bb ∧ decide (0 < Q) = bb := by
    unfold sideP at hsp
    rcases hsp with h | h
    · exact ⟨true, decide_eq_true h.1, decide_eq_true h.2⟩
    · exact ⟨false, decide_eq_false (by omega), decide_eq_false (by omega)⟩
  have hc1 : decide (P = 0) = false := decide_eq_false (by unfold sideP at hsp; omega)
  have hc2 : decide (Q = 0) = false := decide_eq_false (by unfold sideP at hsp; omega)
  have t5 : ((!bb == bb) = true) = False := eq_false (by cases bb <;> decide)
  have hD0 : 0 < D := by rw [← hD]; unfold sideP at hsp; unfold absE; omega
  have hb1 : (-5000 ≤ X ∧ X ≤ 5000) ∧ (-5000 ≤ Y ∧ Y ≤ 5000) ∧ (-5000 ≤ rx ∧ rx ≤ 5000) ∧ (-5000 ≤ ry ∧ ry ≤ 5000) ∧ (-1000 ≤ cell get i 1 ∧ cell get i 1 ≤ 1000) ∧ -1000 ≤ cell get i 2 ∧ cell get i 2 ≤ 1000 := by omega
  have hb2 : (-5000 ≤ X ∧ X ≤ 5000) ∧ (-5000 ≤ Y ∧ Y ≤ 5000) ∧ (-5000 ≤ rx ∧ rx ≤ 5000) ∧ (-5000 ≤ ry ∧ ry ≤ 5000) ∧ (-1000 ≤ cell get i 3 ∧ cell get i 3 ≤ 1000) ∧ -1000 ≤ cell get i 4 ∧ cell get i 4 ≤ 1000 := by omega
  have hh := mul_le_of (a := cell get i 5) (A := 1000) (b := D) (B := 16000000) (by have := hwi.high; omega) hwi.high.2 (by omega) p7.2
  have hzd : decide (cell get i 5 * D ≤ Z) = false := decide_eq_false (by omega)
  simp only [Proofs.Tryz.f55]
  rw [enter_mkT (Nat.le_of_ble_eq_true rfl)]
  simp (maxSteps := 4000000) only [go_sem, ↓op_move, ↓op_assign, ↓op_pick, ↓op_alloc, ↓op_box, ↓op_build, ↓op_buildSlice, ↓op_load, ↓op_store, ↓op_nilCheck, ↓op_bin, ↓op_un, ↓op_convert, ↓op_makeFunc, ↓op_makeSlice, ↓op_slice, ↓op_fieldAddr, ↓op_field, ↓op_indexAddr, ↓op_index, ↓op_extract, ↓op_lookup, ↓op_mapUpdate, ↓op_makeMap, ↓op_range, ↓op_next, ↓op_call, ↓op_builtin, ↓g_tt, ↓g_ff, ↓g_tf, ↓g_ft, ↓g_tnt, ↓g_tnf, ↓g_fnt, ↓g_fnf, ↓mkT_getD, hp, hgi, hP, hQ, hX, hY, hA, hB, hD, hU, hV, hZ, hzd, hc1, hc2, hc3, hc4, t5, ha1, ha2, Int.toNat_natCast]
  refine ⟨⟨by omega, by omega⟩, spre, rpre, fun _ => ⟨⟨by omega, by omega⟩, ⟨by omega, by omega⟩, ⟨hwi, hs⟩, hb1, hb2, inK_of (by omega) (by omega), inK_of (by omega) (by omega), inK_of (by omega) (by omega), inK_of (by omega) (by omega), inK_of (by omega) (by omega), inK_of (by omega) (by omega), inK_of (by omega) (by omega), inK_of (by omega) (by omega), inK_of (by omega) (by omega), inK_of (by omega) (by omega), inK_of (by omega) (by omega), ?_⟩⟩
  refine RestT.loopF (β := Nat) [(9, 9), (17, 22), (128, 155)] (fun k => [(128, .int .i64 k)]) (fun _ => _) (fun k => k ≤ n ∧ ∀ j, j < k → j ≠ i → (F1 j || F2 j) = false) (fun k => n - k) 0 ⟨Nat.zero_le _, fun j hj => absurd hj (Nat.not_lt_zero _)⟩ ?_ (HpLe.refl _) ?_
  · simp (maxSteps := 4000000) only [go_sem, ↓op_move, ↓op_assign, ↓op_pick, ↓op_alloc, ↓op_box, ↓op_build, ↓op_buildSlice, ↓op_load, ↓op_store, ↓op_nilCheck, ↓op_bin, ↓op_un, ↓op_convert, ↓op_makeFunc, ↓op_makeSlice, ↓op_slice, ↓op_fieldAddr, ↓op_field, ↓op_indexAddr, ↓op_index, ↓op_extract, ↓op_lookup, ↓op_mapUpdate, ↓op_makeMap, ↓op_range, ↓op_next, ↓op_call, ↓op_builtin, ↓g_tt, ↓g_ff, ↓g_tf, ↓g_ft, ↓g_tnt, ↓g_tnf, ↓g_fnt, ↓g_fnf, ↓mkT_getD]
    try exact rfl
  · intro ck k hck hI
    obtain ⟨hk, hI⟩ := hI
    have hk : k ≤ n := hk
    have hI : ∀ j, j < k → j ≠ i → (F1 j || F2 j) = false := hI
    generalize hq0 : exC _ _ _ _ _ = gg
    by_cases hlt : k < n
    · have hd : decide ((k : Int) < (n : Int)) = true := by simp; omega
      obtain ⟨hgk, hnmk⟩ := hw.2 k hlt
      by_cases hki : k = i
      · have hdk : decide ((k : Int) = (i : Int)) = true := decide_eq_true (by omega)
        rw [← hq0]
        clear hq0
        simp (maxSteps := 4000000) only [go_sem, ↓op_move, ↓op_assign, ↓op_pick, ↓op_alloc, ↓op_box, ↓op_build, ↓op_buildSlice, ↓op_load, ↓op_store, ↓op_nilCheck, ↓op_bin, ↓op_un, ↓op_convert, ↓op_makeFunc, ↓op_makeSlice, ↓op_slice, ↓op_fieldAddr, ↓op_field, ↓op_indexAddr, ↓op_index, ↓op_extract, ↓op_lookup, ↓op_mapUpdate, ↓op_makeMap, ↓op_range, ↓op_next, ↓op_call, ↓op_builtin, ↓g_tt, ↓g_ff, ↓g_tf, ↓g_ft, ↓g_tnt, ↓g_tnf, ↓g_fnt, ↓g_fnf, ↓mkT_getD, hd, hp, hgk, hdk]
        exact ⟨⟨by omega, by omega⟩, inK_of (by omega) (by omega), by omega, k + 1, ⟨hlt, fun j hj hji => hI j (by omega) hji⟩, by omega, rfl, HpLe.drop2 (by simp [updH])⟩
      · have hdk : decide ((k : Int) = (i : Int)) = false := decide_eq_false (by omega)
        have hwk := hwo.wall k hlt
        have hx1 : WallOk (wName get k) (cell get k 1) (cell get k 2) (cell get k 3) (cell get k 4) (cell get k 5) (cell get k 6) ∧ SpotOk sx sy sz' ∧ 0 < D ∧ D ≤ 20000000 ∧ (-(5000 * D) ≤ U ∧ U ≤ 5000 * D) ∧ (-(5000 * D) ≤ V' ∧ V' ≤ 5000 * D) ∧ 0 ≤ Z ∧ Z ≤ 1000 * D := ⟨hwk, hs, by omega⟩
        have hx2 : WallOk (wName get k) (cell get k 1) (cell get k 2) (cell get k 3) (cell get k 4) (cell get k 5) (cell get k 6) ∧ SpotOk rx ry rz ∧ 0 < D ∧ D ≤ 20000000 ∧ (-(5000 * D) ≤ U ∧ U ≤ 5000 * D) ∧ (-(5000 * D) ≤ V' ∧ V' ≤ 5000 * D) ∧ 0 ≤ Z ∧ Z ≤ 1000 * D := ⟨hwk, hr, by omega⟩
        have hnx : (F1 k || F2 k) = false → ∀ j, j < k + 1 → ¬ j = i → (F1 j || F2 j) = false := fun h j hj hji => by
          by_cases e : j = k
          · subst e; exact h
          · exact hI j (by omega) hji
        have hqf : (F1 k || F2 k) = true → reflB n get i sx sy sz' rx ry rz = false := fun h => reflB_false fun q => by have := q.2.2.2 k hlt hki; rw [hhid, h] at this; exact absurd this (by decide)
        cases h1 : F1 k
        · cases h2 : F2 k
          · rw [← hq0]
            clear hq0
            simp (maxSteps := 4000000) only [go_sem, ↓op_move, ↓op_assign, ↓op_pick, ↓op_alloc, ↓op_box, ↓op_build, ↓op_buildSlice, ↓op_load, ↓op_store, ↓op_nilCheck, ↓op_bin, ↓op_un, ↓op_convert, ↓op_makeFunc, ↓op_makeSlice, ↓op_slice, ↓op_fieldAddr, ↓op_field, ↓op_indexAddr, ↓op_index, ↓op_extract, ↓op_lookup, ↓op_mapUpdate, ↓op_makeMap, ↓op_range, ↓op_next, ↓op_call, ↓op_builtin, ↓g_tt, ↓g_ff, ↓g_tf, ↓g_ft, ↓g_tnt, ↓g_tnf, ↓g_fnt, ↓g_fnf, ↓mkT_getD, hd, hp, hgk, hdk, hF1, hF2, h1, h2]
            exact ⟨⟨by omega, by omega⟩, hx1, hx2, inK_of (by omega) (by omega), by omega, k + 1, ⟨hlt, hnx (by rw [h1, h2]; rfl)⟩, by omega, rfl, ((((((HpLe.refl _).more (by simp [updH])).more (by simp [updH])).more (by simp [updH])).more (by simp [updH])).more (by simp [updH])).more (by simp [updH])⟩
          · rw [← hq0]
            clear hq0
            simp (maxSteps := 4000000) only [go_sem, ↓op_move, ↓op_assign, ↓op_pick, ↓op_alloc, ↓op_box, ↓op_build, ↓op_buildSlice, ↓op_load, ↓op_store, ↓op_nilCheck, ↓op_bin, ↓op_un, ↓op_convert, ↓op_makeFunc, ↓op_makeSlice, ↓op_slice, ↓op_fieldAddr, ↓op_field, ↓op_indexAddr, ↓op_index, ↓op_extract, ↓op_lookup, ↓op_mapUpdate, ↓op_makeMap, ↓op_range, ↓op_next, ↓op_call, ↓op_builtin, ↓g_tt, ↓g_ff, ↓g_tf, ↓g_ft, ↓g_tnt, ↓g_tnf, ↓g_fnt, ↓g_fnf, ↓mkT_getD, hd, hp, hgk, hdk, hF1, hF2, h1, h2]
            exact ⟨⟨by omega, by omega⟩, hx1, hx2, fin0 (hqf (by rw [h1, h2]; rfl))⟩
        · cases h2 : F2 k
          all_goals
            rw [← hq0]
            clear hq0
            simp (maxSteps := 4000000) only [go_sem, ↓op_move, ↓op_assign, ↓op_pick, ↓op_alloc, ↓op_box, ↓op_build, ↓op_buildSlice, ↓op_load, ↓op_store, ↓op_nilCheck, ↓op_bin, ↓op_un, ↓op_convert, ↓op_makeFunc, ↓op_makeSlice, ↓op_slice, ↓op_fieldAddr, ↓op_field, ↓op_indexAddr, ↓op_index, ↓op_extract, ↓op_lookup, ↓op_mapUpdate, ↓op_makeMap, ↓op_range, ↓op_next, ↓op_call, ↓op_builtin, ↓g_tt, ↓g_ff, ↓g_tf, ↓g_ft, ↓g_tnt, ↓g_tnf, ↓g_fnt, ↓g_fnf, ↓mkT_getD, hd, hp, hgk, hdk, hF1, hF2, h1, h2]
            first | exact ⟨⟨by omega, by omega⟩, hx1, hx2, fin0 (hqf (by rw [h1, h2]; rfl))⟩ | trace_state
    · have hd : decide ((k : Int) < (n : Int)) = false := by simp; omega
      rw [← hq0]
      clear hq0
      simp (maxSteps := 4000000) only [go_sem, ↓op_move, ↓op_assign, ↓op_pick, ↓op_alloc, ↓op_box, ↓op_build, ↓op_buildSlice, ↓op_load, ↓op_store, ↓op_nilCheck, ↓op_bin, ↓op_un, ↓op_convert, ↓op_makeFunc, ↓op_makeSlice, ↓op_slice, ↓op_fieldAddr, ↓op_field, ↓op_indexAddr, ↓op_index, ↓op_extract, ↓op_lookup, ↓op_mapUpdate, ↓op_makeMap, ↓op_range, ↓op_next, ↓op_call, ↓op_builtin, ↓g_tt, ↓g_ff, ↓g_tf, ↓g_ft, ↓g_tnt, ↓g_tnf, ↓g_fnt, ↓g_fnf, ↓mkT_getD, hd, hp, hfz]
      have hq : reflP n get i sx sy sz' rx ry rz := ⟨by rw [hPw, hQw]; exact hsp, by rw [hby, hsm], by rw [eZ, eD]; omega, fun j hj hji => by rw [hhid]; exact hI j (by omega) hji⟩
      refine ⟨⟨⟨⟨by omega, by omega⟩, by omega, by omega⟩, noSl2⟩, ⟨⟨⟨by omega, by omega⟩, by omega, by omega⟩, noSl2⟩, ⟨⟨⟨by omega, by omega⟩, by omega, by omega⟩, noSl2⟩, ⟨⟨by omega, by omega⟩, ⟨by omega, by omega⟩, ⟨by omega, by omega⟩, hr⟩, VEnt.of_eq ?_⟩
      rw [reflB_true hq, if_pos rfl]
      unfold mirR
      rw [eU, eV, eZ, eD, hXw, hYw]
end Go.Fly.Tryz
