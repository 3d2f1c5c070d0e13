/- Homes with one window: what is checked, and what comes in. -/
import Derived.Test.YtfcdodaakhlppaaGreatDoorSYTOQ
import Derived.Test.YtfcdodaakhlppaaGreatDoorAV
set_option linter.unusedSimpArgs false
set_option linter.unusedVariables false
set_option maxRecDepth 100000
set_option maxHeartbeats 1000000
namespace Go.Fly.Tryz
open Go Off

theorem hWhen_ok : Holds Proofs.Tryz.prog G0 53 whenC := by
  refine Holds.of_exC D53 Proofs.Tryz.func53 rfl foll (by kernel_rfl) (tab []) (tab_ok trivial) G0_ok fun k0 rl args hpu hpre => ?_
  unfold whenC at hpre ⊢
  split at hpre
  rotate_left
  · exact hpre.elim
  simp only [Proofs.Tryz.f53]
  simp (maxSteps := 4000000) only [go_sem, ↓upXAbsY, ↓upXAbsZa, ↓upXOffC]
  exact ⟨fun h => VEnt.of_eq (by simp [h, err]), fun h => VEnt.of_eq (by simp [h, err])⟩

theorem hWithin_ok : Holds Proofs.Tryz.prog G0 52 withinC := by
  refine Holds.of_exC D52 Proofs.Tryz.func52 rfl foll (by kernel_rfl) (tab [(53, whenC)]) (tab_ok ⟨hWhen_ok, trivial⟩) G0_ok fun k0 rl args hpu hpre => ?_
  unfold withinC at hpre ⊢
  split at hpre
  rotate_left
  · exact hpre.elim
  simp only [Proofs.Tryz.f52]
  simp (maxSteps := 4000000) only [go_sem, ↓upXAbsY, ↓upXAbsZa, ↓upXOffC]
  exact ⟨fun h => VEnt.of_eq (by simp [h, err, rng]), fun h => VEnt.of_eq (by simp [h, err, rng])⟩

theorem hFirst_ok : Holds Proofs.Tryz.prog G0 51 firstC := by
  refine Holds.of_exC D51 Proofs.Tryz.func51 rfl foll (by kernel_rfl) (tab []) (tab_ok trivial) G0_ok fun k0 rl args hpu hpre => ?_
  unfold firstC at hpre ⊢
  split at hpre
  rotate_left
  · exact hpre.elim
  rename_i n sz get
  obtain ⟨rfl, hn, hget⟩ := hpre
  simp only [Proofs.Tryz.f51]
  rw [enter_mkT (Nat.le_of_ble_eq_true rfl)]
  simp (maxSteps := 4000000) only [go_sem, ↓upXAbsY, ↓upXAbsZa, ↓upXOffC]
  refine RestT.loopF (β := Nat) [(2, 2), (4, 4), (7, 14)] (fun i => [(7, .int .i64 i)]) (fun _ => fun _ => none) (fun i => i ≤ n ∧ firstI (intAt get) 0 n = firstI (intAt get) i (n - i)) (fun i => n - i) 0 ⟨by omega, by simp⟩ ?_ HpLe.none ?_
  · simp (maxSteps := 4000000) only [go_sem, ↓upXAbsY, ↓upXAbsZa, ↓upXOffC]
    try simp
  · intro ck i hck hI
    have hi := hI.1
    have hf := hI.2
    simp (maxSteps := 4000000) only [go_sem, ↓upXAbsY, ↓upXAbsZa, ↓upXOffC]
    refine ⟨fun hlt => ?_, fun hge => ?_⟩
    · have hlt : i < n := by omega
      have hg := hget i hlt
      rw [firstI_step hlt] at hf
      simp (maxSteps := 4000000) only [go_sem, ↓upXAbsY, ↓upXAbsZa, ↓upXOffC, hg]
      refine ⟨by omega, fun h => VEnt.of_eq ?_, fun h => ⟨inK_of (by omega) (by omega), i + 1, ⟨by omega, ?_⟩, by omega, rfl, HpLe.none⟩⟩
      · simp at h
        rw [hf, if_pos h]
      · simp at h
        rw [hf, if_neg (by simpa using h)]
    · rw [hf, firstI_end (by omega)]
      exact VEnt.of_eq rfl

theorem hIv_ok : Holds Proofs.Tryz.prog G0 236 intervalC := by
  refine Holds.of_exC D236 Proofs.Tryz.func236 rfl foll (by kernel_rfl) (tab [(51, firstC), (52, withinC), (53, whenC), (iceKey 2, iceC)]) (tab_ok ⟨hFirst_ok, hWithin_ok, hWhen_ok, ice_holds, trivial⟩) G0_ok fun k0 rl args hpu hpre => ?_
  unfold intervalC at hpre ⊢
  split at hpre
  rotate_left
  · exact hpre.elim
  simp only [Proofs.Tryz.f236]
  simp (maxSteps := 4000000) only [go_sem, ↓upXAbsY, ↓upXAbsZa, ↓upXOffC]
  exact VEnt.of_eq rfl

theorem hPass1_ok : Holds Proofs.Tryz.prog G0 235 (ivC 1000) := by
  refine Holds.of_exC D235 Proofs.Tryz.func235 rfl foll (by kernel_rfl) (tab [(236, intervalC), (iceKey 1, iceC)]) (tab_ok ⟨hIv_ok, ice_holds, trivial⟩) G0_ok fun k0 rl args hpu hpre => ?_
  unfold ivC at hpre ⊢
  split at hpre
  rotate_left
  · exact hpre.elim
  simp only [Proofs.Tryz.f235]
  simp (maxSteps := 4000000) only [go_sem, ↓upXAbsY, ↓upXAbsZa, ↓upXOffC]
  exact VEnt.of_eq rfl

theorem hMapIv_ok : Holds Proofs.Tryz.prog G0 234 (mapIv0C 235) := by
  refine Holds.of_exC D234 Proofs.Tryz.func234 rfl foll (by kernel_rfl) (tab [(235, ivC 1000)]) (tab_ok ⟨hPass1_ok, trivial⟩) G0_ok fun k0 rl args hpu hpre => ?_
  unfold mapIv0C at hpre ⊢
  obtain ⟨n, get, rfl, hn, hget⟩ := hpre
  simp only [arg_0]
  simp only [Proofs.Tryz.f234]
  rw [enter_mkT (Nat.le_of_ble_eq_true rfl)]
  simp (maxSteps := 4000000) only [go_sem, ↓upXAbsY, ↓upXAbsZa, ↓upXOffC]
  refine RestT.ents (Ents.nilArr (d := 5) (l := (4, 1000)) 1 (fun _ => []) rfl rfl rfl) ?_
  simp (maxSteps := 4000000) only [go_sem, ↓upXAbsY, ↓upXAbsZa, ↓upXOffC]
  refine RestT.loopF (β := Nat) [(5, 5), (7, 7), (10, 20)] (fun i => [(5, .msl (4, 1000) 0 i), (10, .int .i64 i)]) (fun i => updH (fun _ => none) (4, 1000) (.arr i 1 (fun _ => [.int .i64 0]))) (fun i => i ≤ n) (fun i => n - i) 0 (Nat.zero_le _) ?_ (HpLe.arr1 (updH_same _ _ _) rfl rfl fun i hi => by omega) ?_
  · simp (maxSteps := 4000000) only [go_sem, ↓upXAbsY, ↓upXAbsZa, ↓upXOffC]
    try simp
  · intro ck i hck hi
    generalize hq0 : exC _ _ _ _ _ = gg
    by_cases hlt : i < n
    · have hd : decide ((i : Int) < (n : Int)) = true := by simp; omega
      have hg := hget i hlt
      have hz : ivE 1000 1000 1000 = 0 := by decide
      rw [← hq0]
      clear hq0
      simp (maxSteps := 4000000) only [go_sem, ↓upXAbsY, ↓upXAbsZa, ↓upXOffC, hd, hg, hz]
      exact ⟨⟨by omega, by omega⟩, ⟨by omega, by omega, row_ok rfl ones_int⟩, inK_of (by omega) (by omega), i + 1, hlt, by omega, ⟨rfl, rfl⟩, HpLe.arr1 (updH_same _ _ _) rfl rfl fun j hj => snoc (f := fun _ => [.int .i64 0]) rfl rfl hj⟩
    · have hd : decide ((i : Int) < (n : Int)) = false := by simp; omega
      obtain rfl : i = n := by have : i ≤ n := hi; omega
      rw [← hq0]
      clear hq0
      simp (maxSteps := 4000000) only [go_sem, ↓upXAbsY, ↓upXAbsZa, ↓upXOffC, hd, Nat.zero_add]
      exact VEnt.sl fun i hi => rfl

theorem hPass_ok : Holds Proofs.Tryz.prog G0 206 pass0C := by
  refine Holds.of_exC D206 Proofs.Tryz.func206 rfl foll (by kernel_rfl) (tab [(51, firstC), (234, mapIv0C 235), (235, ivC 1000), (iceKey 1, iceC)]) (tab_ok ⟨hFirst_ok, hMapIv_ok, hPass1_ok, ice_holds, trivial⟩) G0_ok fun k0 rl args hpu hpre => ?_
  unfold pass0C at hpre ⊢
  obtain rfl : _ = _ := hpre
  simp only [Proofs.Tryz.f206]
  rw [enter_mkT (Nat.le_of_ble_eq_true rfl)]
  simp (maxSteps := 4000000) only [go_sem, ↓upXAbsY, ↓upXAbsZa, ↓upXOffC]
  exact ⟨⟨⟨8, _, rfl, by decide, row16⟩, .inl pu_row16⟩, isInts_0 (by decide), VEnt.of_eq rfl⟩

theorem hWin1_ok : Holds Proofs.Tryz.prog G0 205 (int1C (fun n => rng n 0 100000000)) := by
  refine Holds.of_exC D205 Proofs.Tryz.func205 rfl foll (by kernel_rfl) (tab [(52, withinC)]) (tab_ok ⟨hWithin_ok, trivial⟩) G0_ok fun k0 rl args hpu hpre => ?_
  unfold int1C at hpre ⊢
  split at hpre
  rotate_left
  · exact hpre.elim
  simp only [Proofs.Tryz.f205]
  simp (maxSteps := 4000000) only [go_sem, ↓upXAbsY, ↓upXAbsZa, ↓upXOffC]
  exact VEnt.of_eq rfl

theorem hMapInt_ok : Holds Proofs.Tryz.prog G0 204 (mapInt0C 205) := by
  refine Holds.of_exC D204 Proofs.Tryz.func204 rfl foll (by kernel_rfl) (tab [(205, int1C (fun n => rng n 0 100000000))]) (tab_ok ⟨hWin1_ok, trivial⟩) G0_ok fun k0 rl args hpu hpre => ?_
  unfold mapInt0C at hpre ⊢
  obtain ⟨n, get, rfl, hn, hiv, hbd⟩ := hpre
  simp only [arg_0]
  simp only [Proofs.Tryz.f204]
  rw [enter_mkT (Nat.le_of_ble_eq_true rfl)]
  simp (maxSteps := 4000000) only [go_sem, ↓upXAbsY, ↓upXAbsZa, ↓upXOffC]
  refine RestT.ents (Ents.nilArr (d := 5) (l := (4, 1000)) 1 (fun _ => []) rfl rfl rfl) ?_
  simp (maxSteps := 4000000) only [go_sem, ↓upXAbsY, ↓upXAbsZa, ↓upXOffC]
  refine RestT.loopF (β := Nat) [(5, 5), (7, 7), (10, 20)] (fun i => [(5, .msl (4, 1000) 0 i), (10, .int .i64 i)]) (fun i => updH (fun _ => none) (4, 1000) (.arr i 1 (fun _ => [.int .i64 0]))) (fun i => i ≤ n) (fun i => n - i) 0 (Nat.zero_le _) ?_ (HpLe.arr1 (updH_same _ _ _) rfl rfl fun i hi => by omega) ?_
  · simp (maxSteps := 4000000) only [go_sem, ↓upXAbsY, ↓upXAbsZa, ↓upXOffC]
    try simp
  · intro ck i hck hi
    generalize hq0 : exC _ _ _ _ _ = gg
    by_cases hlt : i < n
    · have hd : decide ((i : Int) < (n : Int)) = true := by simp; omega
      have hg := hiv.2 i hlt
      have hz : rng (intAt get i) 0 100000000 = 0 := rng_zero.2 (hbd i hlt)
      rw [← hq0]
      clear hq0
      simp (maxSteps := 4000000) only [go_sem, ↓upXAbsY, ↓upXAbsZa, ↓upXOffC, hd, hg, hz]
      exact ⟨⟨by omega, by omega⟩, ⟨by omega, by omega, row_ok rfl ones_int⟩, inK_of (by omega) (by omega), i + 1, hlt, by omega, ⟨rfl, rfl⟩, HpLe.arr1 (updH_same _ _ _) rfl rfl fun j hj => snoc (f := fun _ => [.int .i64 0]) rfl rfl hj⟩
    · have hd : decide ((i : Int) < (n : Int)) = false := by simp; omega
      obtain rfl : i = n := by have : i ≤ n := hi; omega
      rw [← hq0]
      clear hq0
      simp (maxSteps := 4000000) only [go_sem, ↓upXAbsY, ↓upXAbsZa, ↓upXOffC, hd, Nat.zero_add]
      exact VEnt.sl fun i hi => rfl

theorem hWin_ok : Holds Proofs.Tryz.prog G0 108 winC := by
  refine Holds.of_exC D108 Proofs.Tryz.func108 rfl foll (by kernel_rfl) (tab [(51, firstC), (52, withinC), (204, mapInt0C 205), (205, int1C (fun n => rng n 0 100000000)), (206, pass0C), (iceKey 1, iceC)]) (tab_ok ⟨hFirst_ok, hWithin_ok, hMapInt_ok, hWin1_ok, hPass_ok, ice_holds, trivial⟩) G0_ok fun k0 rl args hpu hpre => ?_
  unfold winC at hpre ⊢
  obtain ⟨f, rfl, hf⟩ := hpre
  simp only [Proofs.Tryz.f108]
  rw [enter_mkT (Nat.le_of_ble_eq_true rfl)]
  simp (maxSteps := 4000000) only [go_sem, ↓upXAbsY, ↓upXAbsZa, ↓upXOffC, hmRow]
  exact ⟨⟨⟨8, _, rfl, by decide, ints_row f, fun i hi => by have := hf i hi; rw [← rowI (f := f) i hi] at this; exact this⟩, .inl (pu_rowF f)⟩, isInts_0 (by decide), VEnt.of_eq (by rw [first3_0])⟩

theorem hMapWin_ok : Holds Proofs.Tryz.prog G0 107 (mapWin0C 108) := by
  refine Holds.of_exC D107 Proofs.Tryz.func107 rfl foll (by kernel_rfl) (tab [(108, winC)]) (tab_ok ⟨hWin_ok, trivial⟩) G0_ok fun k0 rl args hpu hpre => ?_
  unfold mapWin0C at hpre ⊢
  obtain ⟨f, rfl, hf⟩ := hpre
  simp only [Proofs.Tryz.f107]
  rw [enter_mkT (Nat.le_of_ble_eq_true rfl)]
  simp (maxSteps := 4000000) only [go_sem, ↓upXAbsY, ↓upXAbsZa, ↓upXOffC]
  refine RestT.ents (Ents.nilArr (d := 5) (l := (4, 1000)) 1 (fun _ => []) rfl rfl rfl) ?_
  simp (maxSteps := 4000000) only [go_sem, ↓upXAbsY, ↓upXAbsZa, ↓upXOffC]
  refine RestT.loopF (β := Nat) [(5, 5), (7, 7), (10, 20)] (fun i => [(5, .msl (4, 1000) 0 i), (10, .int .i64 i)]) (fun i => updH (fun _ => none) (4, 1000) (.arr i 1 (fun _ => [.int .i64 0]))) (fun i => i ≤ 1) (fun i => 1 - i) 0 (Nat.zero_le _) ?_ (HpLe.arr1 (updH_same _ _ _) rfl rfl fun i hi => by omega) ?_
  · simp (maxSteps := 4000000) only [go_sem, ↓upXAbsY, ↓upXAbsZa, ↓upXOffC]
    try simp
  · intro ck i hck hi
    generalize hq0 : exC _ _ _ _ _ = gg
    have hi : i = 0 ∨ i = 1 := by have : i ≤ 1 := hi; omega
    rcases hi with rfl | rfl
    · rw [← hq0]
      clear hq0
      simp (maxSteps := 4000000) only [go_sem, ↓upXAbsY, ↓upXAbsZa, ↓upXOffC, hmRow]
      exact ⟨⟨f, rfl, hf⟩, row_ok rfl ones_int, inK_of (by decide) (by decide), 1, by decide, by decide, ⟨rfl, rfl⟩, HpLe.arr1 (updH_same _ _ _) rfl rfl fun j hj => snoc (f := fun _ => [.int .i64 0]) rfl rfl hj⟩
    · rw [← hq0]
      clear hq0
      simp (maxSteps := 4000000) only [go_sem, ↓upXAbsY, ↓upXAbsZa, ↓upXOffC]
      exact VEnt.sl fun i hi => rfl

theorem hCheck_ok : Holds Proofs.Tryz.prog G0 59 chkHomeC := by
  refine Holds.of_exC D59 Proofs.Tryz.func59 rfl foll (by kernel_rfl) (tab [(51, firstC), (52, withinC), (53, whenC), (54, nameC), (107, mapWin0C 108), (108, winC), (iceKey 1, iceC)]) (tab_ok ⟨hFirst_ok, hWithin_ok, hWhen_ok, dName_ok, hMapWin_ok, hWin_ok, ice_holds, trivial⟩) G0_ok fun k0 rl args hpu hpre => ?_
  unfold chkHomeC at hpre ⊢
  obtain ⟨s, f, rfl, hs, hf⟩ := hpre
  have hn := name24 hs
  have hz : decide (firstL [err false 8, rng 0 0 1000, err false 12, err false 5] = 0) = true := by decide
  simp only [Proofs.Tryz.f59]
  rw [enter_mkT (Nat.le_of_ble_eq_true rfl)]
  simp (maxSteps := 4000000) only [go_sem, ↓upXAbsY, ↓upXAbsZa, ↓upXOffC, homeV, hs, hz, Bool.not_true]
  exact ⟨by omega, ⟨f, rfl, hf⟩, isInts_0 (by decide), VEnt.of_eq rfl⟩

theorem hTotal_ok : Holds Proofs.Tryz.prog G0 112 totalC := by
  refine Holds.of_exC D112 Proofs.Tryz.func112 rfl foll (by kernel_rfl) (tab [(iceKey 1, iceC)]) (tab_ok ⟨ice_holds, trivial⟩) G0_ok fun k0 rl args hpu hpre => ?_
  unfold totalC at hpre ⊢
  obtain ⟨f, rfl, hf⟩ := hpre
  simp only [arg_0, cellsOf_agg, wSum_rowU]
  simp only [Proofs.Tryz.f112]
  rw [enter_mkT (Nat.le_of_ble_eq_true rfl)]
  simp (maxSteps := 4000000) only [go_sem, ↓upXAbsY, ↓upXAbsZa, ↓upXOffC]
  refine ⟨fun h => VEnt.of_eq ?_, fun h => ?_⟩
  · simp only [Bool.and_eq_true, decide_eq_true_eq] at h
    obtain ⟨h0, h1, h2, h3, h4, h5, h6, h7⟩ := h
    simp [sN, h0, h1, h2, h3, h4, h5, h6, h7]
  clear h
  refine RestT.loopF (β := Nat) [(3, 4), (8, 16)] (fun i => [(3, .int .i64 (sN f i)), (8, .int .i64 i)]) (fun _ => fun _ => none) (fun i => i ≤ 8) (fun i => 8 - i) 0 (Nat.zero_le _) ?_ HpLe.none ?_
  · simp (maxSteps := 4000000) only [go_sem, ↓upXAbsY, ↓upXAbsZa, ↓upXOffC]
    try exact rfl
  · intro ck i hck hi
    have hb := sN_bd hf hi
    have c5 : ((5 : Nat) : Int) = 5 := rfl
    have c6 : ((6 : Nat) : Int) = 6 := rfl
    have c7 : ((7 : Nat) : Int) = 7 := rfl
    have x0 := hf 0 (by decide)
    have x1 := hf 1 (by decide)
    have x2 := hf 2 (by decide)
    have x3 := hf 3 (by decide)
    have x4 := hf 4 (by decide)
    have x5 := hf 5 (by decide)
    have x6 := hf 6 (by decide)
    have x7 := hf 7 (by decide)
    generalize hq0 : exC _ _ _ _ _ = gg
    have hi : i = 0 ∨ i = 1 ∨ i = 2 ∨ i = 3 ∨ i = 4 ∨ i = 5 ∨ i = 6 ∨ i = 7 ∨ i = 8 := by have : i ≤ 8 := hi; omega
    rcases hi with rfl | rfl | rfl | rfl | rfl | rfl | rfl | rfl | rfl
    · rw [← hq0]
      clear hq0
      simp (maxSteps := 4000000) only [go_sem, ↓upXAbsY, ↓upXAbsZa, ↓upXOffC, c5, c6, c7]
      exact ⟨inK_of (by omega) (by omega), inK_of (by decide) (by decide), by omega, 1, by decide, by decide, ⟨rfl, rfl⟩, HpLe.none⟩
    · rw [← hq0]
      clear hq0
      simp (maxSteps := 4000000) only [go_sem, ↓upXAbsY, ↓upXAbsZa, ↓upXOffC, c5, c6, c7]
      exact ⟨inK_of (by omega) (by omega), inK_of (by decide) (by decide), by omega, 2, by decide, by decide, ⟨rfl, rfl⟩, HpLe.none⟩
    · rw [← hq0]
      clear hq0
      simp (maxSteps := 4000000) only [go_sem, ↓upXAbsY, ↓upXAbsZa, ↓upXOffC, c5, c6, c7]
      exact ⟨inK_of (by omega) (by omega), inK_of (by decide) (by decide), by omega, 3, by decide, by decide, ⟨rfl, rfl⟩, HpLe.none⟩
    · rw [← hq0]
      clear hq0
      simp (maxSteps := 4000000) only [go_sem, ↓upXAbsY, ↓upXAbsZa, ↓upXOffC, c5, c6, c7]
      exact ⟨inK_of (by omega) (by omega), inK_of (by decide) (by decide), by omega, 4, by decide, by decide, ⟨rfl, rfl⟩, HpLe.none⟩
    · rw [← hq0]
      clear hq0
      simp (maxSteps := 4000000) only [go_sem, ↓upXAbsY, ↓upXAbsZa, ↓upXOffC, c5, c6, c7]
      exact ⟨inK_of (by omega) (by omega), inK_of (by decide) (by decide), by omega, 5, by decide, by decide, ⟨rfl, rfl⟩, HpLe.none⟩
    · rw [← hq0]
      clear hq0
      simp (maxSteps := 4000000) only [go_sem, ↓upXAbsY, ↓upXAbsZa, ↓upXOffC, c5, c6, c7]
      exact ⟨inK_of (by omega) (by omega), inK_of (by decide) (by decide), by omega, 6, by decide, by decide, ⟨rfl, rfl⟩, HpLe.none⟩
    · rw [← hq0]
      clear hq0
      simp (maxSteps := 4000000) only [go_sem, ↓upXAbsY, ↓upXAbsZa, ↓upXOffC, c5, c6, c7]
      exact ⟨inK_of (by omega) (by omega), inK_of (by decide) (by decide), by omega, 7, by decide, by decide, ⟨rfl, rfl⟩, HpLe.none⟩
    · rw [← hq0]
      clear hq0
      simp (maxSteps := 4000000) only [go_sem, ↓upXAbsY, ↓upXAbsZa, ↓upXOffC, c5, c6, c7]
      exact ⟨inK_of (by omega) (by omega), inK_of (by decide) (by decide), by omega, 8, by decide, by decide, ⟨rfl, rfl⟩, HpLe.none⟩
    · rw [← hq0]
      clear hq0
      simp (maxSteps := 4000000) only [go_sem, ↓upXAbsY, ↓upXAbsZa, ↓upXOffC]
      exact VEnt.of_eq rfl

theorem hOut1_ok : Holds Proofs.Tryz.prog G0 111 winSumC := by
  refine Holds.of_exC D111 Proofs.Tryz.func111 rfl foll (by kernel_rfl) (tab [(112, totalC), (iceKey 1, iceC)]) (tab_ok ⟨hTotal_ok, ice_holds, trivial⟩) G0_ok fun k0 rl args hpu hpre => ?_
  unfold winSumC at hpre ⊢
  obtain ⟨f, rfl, hf⟩ := hpre
  simp only [arg_0, cellsOf_agg, wSum_row]
  simp only [Proofs.Tryz.f111]
  rw [enter_mkT (Nat.le_of_ble_eq_true rfl)]
  simp (maxSteps := 4000000) only [go_sem, ↓upXAbsY, ↓upXAbsZa, ↓upXOffC, hmRow]
  exact ⟨⟨f, rfl, hf⟩, VEnt.of_eq rfl⟩

theorem hMapSum_ok : Holds Proofs.Tryz.prog G0 110 (mapWinSumC 111) := by
  refine Holds.of_exC D110 Proofs.Tryz.func110 rfl foll (by kernel_rfl) (tab [(111, winSumC)]) (tab_ok ⟨hOut1_ok, trivial⟩) G0_ok fun k0 rl args hpu hpre => ?_
  unfold mapWinSumC at hpre ⊢
  obtain ⟨f, rfl, hf⟩ := hpre
  simp only [arg_0, wSum_row]
  simp only [Proofs.Tryz.f110]
  rw [enter_mkT (Nat.le_of_ble_eq_true rfl)]
  simp (maxSteps := 4000000) only [go_sem, ↓upXAbsY, ↓upXAbsZa, ↓upXOffC]
  refine RestT.ents (Ents.nilArr (d := 5) (l := (4, 1000)) 1 (fun _ => []) rfl rfl rfl) ?_
  simp (maxSteps := 4000000) only [go_sem, ↓upXAbsY, ↓upXAbsZa, ↓upXOffC]
  refine RestT.loopF (β := Nat) [(5, 5), (7, 7), (10, 20)] (fun i => [(5, .msl (4, 1000) 0 i), (10, .int .i64 i)]) (fun i => updH (fun _ => none) (4, 1000) (.arr i 1 (fun _ => [.int .i64 (sN f 8)]))) (fun i => i ≤ 1) (fun i => 1 - i) 0 (Nat.zero_le _) ?_ (HpLe.arr1 (updH_same _ _ _) rfl rfl fun i hi => by omega) ?_
  · simp (maxSteps := 4000000) only [go_sem, ↓upXAbsY, ↓upXAbsZa, ↓upXOffC]
    try simp
  · intro ck i hck hi
    generalize hq0 : exC _ _ _ _ _ = gg
    have hi : i = 0 ∨ i = 1 := by have : i ≤ 1 := hi; omega
    rcases hi with rfl | rfl
    · rw [← hq0]
      clear hq0
      simp (maxSteps := 4000000) only [go_sem, ↓upXAbsY, ↓upXAbsZa, ↓upXOffC, hmRow]
      exact ⟨⟨f, rfl, hf⟩, row_ok rfl ones_int, inK_of (by decide) (by decide), 1, by decide, by decide, ⟨rfl, rfl⟩, HpLe.arr1 (updH_same _ _ _) rfl rfl fun j hj => snoc (f := fun _ => [.int .i64 (sN f 8)]) rfl rfl hj⟩
    · rw [← hq0]
      clear hq0
      simp (maxSteps := 4000000) only [go_sem, ↓upXAbsY, ↓upXAbsZa, ↓upXOffC]
      exact VEnt.sl fun i hi => rfl

theorem sMax_ok : Holds Proofs.Tryz.prog G0 109 max1C := by
  refine Holds.of_exC D109 Proofs.Tryz.func109 rfl foll (by kernel_rfl) (tab []) (tab_ok trivial) G0_ok fun k0 rl args hpu hpre => ?_
  unfold max1C at hpre ⊢
  obtain ⟨n, rfl⟩ := hpre
  simp only [arg_0]
  simp only [Proofs.Tryz.f109]
  rw [enter_mkT (Nat.le_of_ble_eq_true rfl)]
  simp (maxSteps := 4000000) only [go_sem, ↓upXAbsY, ↓upXAbsZa, ↓upXOffC]
  refine RestT.loopF (β := Nat) [(3, 4), (12, 23)] (fun i => [(3, .int .i64 n), (4, .int .i64 1)]) (fun _ => fun _ => none) (fun i => True) (fun i => 0) 0 trivial ?_ HpLe.none ?_
  · simp (maxSteps := 4000000) only [go_sem, ↓upXAbsY, ↓upXAbsZa, ↓upXOffC]
    try exact rfl
  · intro ck i hck hi
    simp (maxSteps := 4000000) only [go_sem, ↓upXAbsY, ↓upXAbsZa, ↓upXOffC]
    exact VEnt.refl _

theorem hOut_ok : Holds Proofs.Tryz.prog G0 60 homeSumC := by
  refine Holds.of_exC D60 Proofs.Tryz.func60 rfl foll (by kernel_rfl) (tab [(109, max1C), (110, mapWinSumC 111), (111, winSumC), (iceKey 1, iceC)]) (tab_ok ⟨sMax_ok, hMapSum_ok, hOut1_ok, ice_holds, trivial⟩) G0_ok fun k0 rl args hpu hpre => ?_
  unfold homeSumC at hpre ⊢
  obtain ⟨s, f, rfl, hf⟩ := hpre
  simp only [arg_0, hSum_home]
  simp only [Proofs.Tryz.f60]
  rw [enter_mkT (Nat.le_of_ble_eq_true rfl)]
  simp (maxSteps := 4000000) only [go_sem, ↓upXAbsY, ↓upXAbsZa, ↓upXOffC, homeV]
  exact ⟨⟨f, rfl, hf⟩, ⟨_, rfl⟩, VEnt.of_eq rfl⟩

theorem hOutdoor_ok : Holds Proofs.Tryz.prog G0 19 outdoorC := by
  refine Holds.of_exC D19 Proofs.Tryz.func19 rfl foll (by kernel_rfl) (tab [(59, chkHomeC), (60, homeSumC), (iceKey 1, iceC)]) (tab_ok ⟨hCheck_ok, hOut_ok, ice_holds, trivial⟩) G0_ok fun k0 rl args hpu hpre => ?_
  unfold outdoorC at hpre ⊢
  obtain ⟨s, f, rfl, hs, hf⟩ := hpre
  simp only [arg_0, hSum_home]
  simp only [Proofs.Tryz.f19]
  rw [enter_mkT (Nat.le_of_ble_eq_true rfl)]
  simp (maxSteps := 4000000) only [go_sem, ↓upXAbsY, ↓upXAbsZa, ↓upXOffC, homeV]
  exact ⟨⟨s, f, rfl, hs, hf⟩, ⟨s, f, rfl, hf⟩, VEnt.of_eq rfl⟩

theorem hWinIn_ok : Holds Proofs.Tryz.prog G0 113 winInC := by
  refine Holds.of_exC D113 Proofs.Tryz.func113 rfl foll (by kernel_rfl) (tab [(iceKey 1, iceC)]) (tab_ok ⟨ice_holds, trivial⟩) G0_ok fun k0 rl args hpu hpre => ?_
  unfold winInC at hpre ⊢
  obtain ⟨f, rfl, hf⟩ := hpre
  simp only [arg_0, cellsOf_agg, wSum_row]
  simp only [Proofs.Tryz.f113]
  rw [enter_mkT (Nat.le_of_ble_eq_true rfl)]
  simp (maxSteps := 4000000) only [go_sem, ↓upXAbsY, ↓upXAbsZa, ↓upXOffC, hmRow]
  refine RestT.loopF (β := Nat) [(3, 6), (9, 31)] (fun i => [(3, .int .i64 (1000 * sN f i)), (4, .int .i64 (1000 * sN f i)), (9, .int .i64 i)]) (fun _ => updH (fun _ => none) (2, 2) (.cells [.int .i64 0, .int .i64 0])) (fun i => i ≤ 8) (fun i => 8 - i) 0 (Nat.zero_le _) ?_ ?_ ?_
  · simp (maxSteps := 4000000) only [go_sem, ↓upXAbsY, ↓upXAbsZa, ↓upXOffC]
    exact rfl
  · exact HpLe.refl _
  · intro ck i hck hi
    have hb := sN_bd hf hi
    have c5 : ((5 : Nat) : Int) = 5 := rfl
    have c6 : ((6 : Nat) : Int) = 6 := rfl
    have c7 : ((7 : Nat) : Int) = 7 := rfl
    have x0 := hf 0 (by decide)
    have x1 := hf 1 (by decide)
    have x2 := hf 2 (by decide)
    have x3 := hf 3 (by decide)
    have x4 := hf 4 (by decide)
    have x5 := hf 5 (by decide)
    have x6 := hf 6 (by decide)
    have x7 := hf 7 (by decide)
    generalize hq0 : exC _ _ _ _ _ = gg
    have hi : i = 0 ∨ i = 1 ∨ i = 2 ∨ i = 3 ∨ i = 4 ∨ i = 5 ∨ i = 6 ∨ i = 7 ∨ i = 8 := by have : i ≤ 8 := hi; omega
    rcases hi with rfl | rfl | rfl | rfl | rfl | rfl | rfl | rfl | rfl
    · rw [← hq0]
      clear hq0
      simp (maxSteps := 4000000) only [go_sem, ↓upXAbsY, ↓upXAbsZa, ↓upXOffC, c5, c6, c7]
      refine ⟨inK_of (by omega) (by omega), inK_of (by omega) (by omega), inK_of (by omega) (by omega), inK_of (by omega) (by omega), inK_of (by decide) (by decide), 1, by decide, by decide, ⟨sN_m f _, sN_m f _, rfl⟩, hpLe_new2 (by rw [updH_ne (by simp)])⟩
    · rw [← hq0]
      clear hq0
      simp (maxSteps := 4000000) only [go_sem, ↓upXAbsY, ↓upXAbsZa, ↓upXOffC, c5, c6, c7]
      refine ⟨inK_of (by omega) (by omega), inK_of (by omega) (by omega), inK_of (by omega) (by omega), inK_of (by omega) (by omega), inK_of (by decide) (by decide), 2, by decide, by decide, ⟨sN_m f _, sN_m f _, rfl⟩, hpLe_new2 (by rw [updH_ne (by simp)])⟩
    · rw [← hq0]
      clear hq0
      simp (maxSteps := 4000000) only [go_sem, ↓upXAbsY, ↓upXAbsZa, ↓upXOffC, c5, c6, c7]
      refine ⟨inK_of (by omega) (by omega), inK_of (by omega) (by omega), inK_of (by omega) (by omega), inK_of (by omega) (by omega), inK_of (by decide) (by decide), 3, by decide, by decide, ⟨sN_m f _, sN_m f _, rfl⟩, hpLe_new2 (by rw [updH_ne (by simp)])⟩
    · rw [← hq0]
      clear hq0
      simp (maxSteps := 4000000) only [go_sem, ↓upXAbsY, ↓upXAbsZa, ↓upXOffC, c5, c6, c7]
      refine ⟨inK_of (by omega) (by omega), inK_of (by omega) (by omega), inK_of (by omega) (by omega), inK_of (by omega) (by omega), inK_of (by decide) (by decide), 4, by decide, by decide, ⟨sN_m f _, sN_m f _, rfl⟩, hpLe_new2 (by rw [updH_ne (by simp)])⟩
    · rw [← hq0]
      clear hq0
      simp (maxSteps := 4000000) only [go_sem, ↓upXAbsY, ↓upXAbsZa, ↓upXOffC, c5, c6, c7]
      refine ⟨inK_of (by omega) (by omega), inK_of (by omega) (by omega), inK_of (by omega) (by omega), inK_of (by omega) (by omega), inK_of (by decide) (by decide), 5, by decide, by decide, ⟨sN_m f _, sN_m f _, rfl⟩, hpLe_new2 (by rw [updH_ne (by simp)])⟩
    · rw [← hq0]
      clear hq0
      simp (maxSteps := 4000000) only [go_sem, ↓upXAbsY, ↓upXAbsZa, ↓upXOffC, c5, c6, c7]
      refine ⟨inK_of (by omega) (by omega), inK_of (by omega) (by omega), inK_of (by omega) (by omega), inK_of (by omega) (by omega), inK_of (by decide) (by decide), 6, by decide, by decide, ⟨sN_m f _, sN_m f _, rfl⟩, hpLe_new2 (by rw [updH_ne (by simp)])⟩
    · rw [← hq0]
      clear hq0
      simp (maxSteps := 4000000) only [go_sem, ↓upXAbsY, ↓upXAbsZa, ↓upXOffC, c5, c6, c7]
      refine ⟨inK_of (by omega) (by omega), inK_of (by omega) (by omega), inK_of (by omega) (by omega), inK_of (by omega) (by omega), inK_of (by decide) (by decide), 7, by decide, by decide, ⟨sN_m f _, sN_m f _, rfl⟩, hpLe_new2 (by rw [updH_ne (by simp)])⟩
    · rw [← hq0]
      clear hq0
      simp (maxSteps := 4000000) only [go_sem, ↓upXAbsY, ↓upXAbsZa, ↓upXOffC, c5, c6, c7]
      refine ⟨inK_of (by omega) (by omega), inK_of (by omega) (by omega), inK_of (by omega) (by omega), inK_of (by omega) (by omega), inK_of (by decide) (by decide), 8, by decide, by decide, ⟨sN_m f _, sN_m f _, rfl⟩, hpLe_new2 (by rw [updH_ne (by simp)])⟩
    · rw [← hq0]
      clear hq0
      simp (maxSteps := 4000000) only [go_sem, ↓upXAbsY, ↓upXAbsZa, ↓upXOffC, updH_same]
      have e1 : (1000 * sN f 8 * 100).tdiv 100000 = sN f 8 := by rw [Int.tdiv_eq_ediv_of_nonneg (by omega)]; omega
      have e2 : (1000 * sN f 8 * 100 + 100000 - 1).tdiv 100000 = sN f 8 := by rw [Int.tdiv_eq_ediv_of_nonneg (by omega)]; omega
      rw [e1, e2]
      exact ⟨inK_of (by omega) (by omega), inK_of (by omega) (by omega), inK_of (by omega) (by omega), inK_of (by omega) (by omega), inK_of (by omega) (by omega), inK_of (by omega) (by omega), VEnt.refl _⟩

theorem hIn_ok : Holds Proofs.Tryz.prog G0 61 homeInC := by
  refine Holds.of_exC D61 Proofs.Tryz.func61 rfl foll (by kernel_rfl) (tab [(113, winInC), (iceKey 1, iceC)]) (tab_ok ⟨hWinIn_ok, ice_holds, trivial⟩) G0_ok fun k0 rl args hpu hpre => ?_
  unfold homeInC at hpre ⊢
  obtain ⟨s, f, rfl, hf⟩ := hpre
  simp only [arg_0, hSum_home]
  have hb := sN_bd hf (Nat.le_refl 8)
  simp only [Proofs.Tryz.f61]
  rw [enter_mkT (Nat.le_of_ble_eq_true rfl)]
  simp (maxSteps := 4000000) only [go_sem, ↓upXAbsY, ↓upXAbsZa, ↓upXOffC, homeV]
  refine RestT.loopF (β := Nat) [(5, 6), (10, 28)] (fun i => [(10, .int .i64 i)]) (fun i => updH (updH (fun _ => none) (2, 2) (.cells [.int .i64 0, .int .i64 0])) (3, 3) (.cells [.int .i64 (if 0 < i then sN f 8 else 0), .int .i64 (if 0 < i then sN f 8 else 0)])) (fun i => i ≤ 1) (fun i => 1 - i) 0 (Nat.zero_le _) ?_ ?_ ?_
  · simp (maxSteps := 4000000) only [go_sem, ↓upXAbsY, ↓upXAbsZa, ↓upXOffC]
    try exact rfl
  · exact HpLe.refl _
  · intro ck i hck hi
    generalize hq0 : exC _ _ _ _ _ = gg
    have hi : i = 0 ∨ i = 1 := by have : i ≤ 1 := hi; omega
    rcases hi with rfl | rfl
    · rw [← hq0]
      clear hq0
      simp (maxSteps := 4000000) only [go_sem, ↓upXAbsY, ↓upXAbsZa, ↓upXOffC, hmRow, show ¬ (0 < 0) from by decide, if_false, Int.zero_add]
      refine ⟨⟨f, rfl, hf⟩, inK_of (by omega) (by omega), inK_of (by omega) (by omega), inK_of (by decide) (by decide), 1, by decide, by decide, rfl, ?_⟩
      refine HpLe.upd (HpLe.upd HpLe.none ⟨_, ?_, ObjLe.refl _⟩) ⟨_, ?_, ObjLe.refl _⟩ <;> simp [updH]
      trace_state
    · rw [← hq0]
      clear hq0
      simp (maxSteps := 4000000) only [go_sem, ↓upXAbsY, ↓upXAbsZa, ↓upXOffC, updH_same, show 0 < 1 from by decide, if_true]
      exact VEnt.refl _

theorem hIndoor_ok : Holds Proofs.Tryz.prog G0 45 indoorC := by
  refine Holds.of_exC D45 Proofs.Tryz.func45 rfl foll (by kernel_rfl) (tab [(59, chkHomeC), (61, homeInC), (iceKey 1, iceC)]) (tab_ok ⟨hCheck_ok, hIn_ok, ice_holds, trivial⟩) G0_ok fun k0 rl args hpu hpre => ?_
  unfold indoorC at hpre ⊢
  obtain ⟨s, f, rfl, hs, hf⟩ := hpre
  simp only [arg_0, hSum_home]
  simp only [Proofs.Tryz.f45]
  rw [enter_mkT (Nat.le_of_ble_eq_true rfl)]
  simp (maxSteps := 4000000) only [go_sem, ↓upXAbsY, ↓upXAbsZa, ↓upXOffC, homeV]
  exact ⟨⟨s, f, rfl, hs, hf⟩, ⟨s, f, rfl, hf⟩, VEnt.of_eq rfl⟩

theorem eHouse_ok : Holds Proofs.Tryz.prog G0 18 eHouseC := by
  refine Holds.of_exC D18 Proofs.Tryz.func18 rfl foll (by kernel_rfl) (tab []) (tab_ok trivial) G0_ok fun k0 rl args hpu hpre => ?_
  unfold eHouseC at hpre ⊢
  obtain ⟨s, n, get, rfl, hn, hget⟩ := hpre
  simp only [arg_0, arg_1, strOf_str]
  simp only [Proofs.Tryz.f18]
  rw [enter_mkT (Nat.le_of_ble_eq_true rfl)]
  simp (maxSteps := 4000000) only [go_sem, ↓upXAbsY, ↓upXAbsZa, ↓upXOffC]
  refine RestT.loopF (β := Nat) [(6, 6), (8, 26)] (fun i => [(8, .int .i64 i)]) (fun i => updH (updH (fun _ => none) (2, 4) (.cells [.str [], .int .i64 0, .nils])) (3, 5) (.cells (hCells (gE n get) i))) (fun i => i ≤ 8) (fun i => 8 - i) 0 (Nat.zero_le _) ?_ ?_ ?_
  · simp (maxSteps := 4000000) only [go_sem, ↓upXAbsY, ↓upXAbsZa, ↓upXOffC]
    try exact rfl
  · exact HpLe.upd (HpLe.upd HpLe.none ⟨_, by simp [updH], ObjLe.refl _⟩) ⟨_, updH_same _ _ _, objLe_cells (by simp [hCells])⟩
  · intro ck i hck hi
    generalize hq0 : exC _ _ _ _ _ = gg
    have c5 : ((5 : Nat) : Int) = 5 := rfl
    have c6 : ((6 : Nat) : Int) = 6 := rfl
    have c7 : ((7 : Nat) : Int) = 7 := rfl
    have hi : i = 0 ∨ i = 1 ∨ i = 2 ∨ i = 3 ∨ i = 4 ∨ i = 5 ∨ i = 6 ∨ i = 7 ∨ i = 8 := by have : i ≤ 8 := hi; omega
    rcases hi with rfl | rfl | rfl | rfl | rfl | rfl | rfl | rfl | rfl
    · by_cases hlt : 0 < n
      · have hd : decide ((0 : Int) < (n : Int)) = true := decide_eq_true (by omega)
        have hg := hget 0 hlt
        have hgE : gE n get 0 = intAt get 0 := if_pos hlt
        rw [← hq0]
        clear hq0
        simp (maxSteps := 4000000) only [go_sem, ↓upXAbsY, ↓upXAbsZa, ↓upXOffC, c5, c6, c7, hCells, updH_same, hd, hg]
        refine ⟨by omega, inK_of (by decide) (by decide), 1, by decide, by decide, rfl, ?_⟩
        exact HpLe.upd (HpLe.upd HpLe.none ⟨_, by simp [updH], ObjLe.refl _⟩) ⟨_, updH_same _ _ _, objLe_cells (by simp [hCells, hgE])⟩
      · have hd : decide ((0 : Int) < (n : Int)) = false := decide_eq_false (by omega)
        have hgE : gE n get 0 = 0 := if_neg hlt
        rw [← hq0]
        clear hq0
        simp (maxSteps := 4000000) only [go_sem, ↓upXAbsY, ↓upXAbsZa, ↓upXOffC, c5, c6, c7, hCells, updH_same, hd]
        refine ⟨inK_of (by decide) (by decide), 1, by decide, by decide, rfl, ?_⟩
        exact HpLe.upd (HpLe.upd HpLe.none ⟨_, by simp [updH], ObjLe.refl _⟩) ⟨_, updH_same _ _ _, objLe_cells (by simp [hCells, hgE])⟩
    · by_cases hlt : 1 < n
      · have hd : decide ((1 : Int) < (n : Int)) = true := decide_eq_true (by omega)
        have hg := hget 1 hlt
        have hgE : gE n get 1 = intAt get 1 := if_pos hlt
        rw [← hq0]
        clear hq0
        simp (maxSteps := 4000000) only [go_sem, ↓upXAbsY, ↓upXAbsZa, ↓upXOffC, c5, c6, c7, hCells, updH_same, hd, hg]
        refine ⟨by omega, inK_of (by decide) (by decide), 2, by decide, by decide, rfl, ?_⟩
        exact HpLe.upd (HpLe.upd HpLe.none ⟨_, by simp [updH], ObjLe.refl _⟩) ⟨_, updH_same _ _ _, objLe_cells (by simp [hCells, hgE])⟩
      · have hd : decide ((1 : Int) < (n : Int)) = false := decide_eq_false (by omega)
        have hgE : gE n get 1 = 0 := if_neg hlt
        rw [← hq0]
        clear hq0
        simp (maxSteps := 4000000) only [go_sem, ↓upXAbsY, ↓upXAbsZa, ↓upXOffC, c5, c6, c7, hCells, updH_same, hd]
        refine ⟨inK_of (by decide) (by decide), 2, by decide, by decide, rfl, ?_⟩
        exact HpLe.upd (HpLe.upd HpLe.none ⟨_, by simp [updH], ObjLe.refl _⟩) ⟨_, updH_same _ _ _, objLe_cells (by simp [hCells, hgE])⟩
    · by_cases hlt : 2 < n
      · have hd : decide ((2 : Int) < (n : Int)) = true := decide_eq_true (by omega)
        have hg := hget 2 hlt
        have hgE : gE n get 2 = intAt get 2 := if_pos hlt
        rw [← hq0]
        clear hq0
        simp (maxSteps := 4000000) only [go_sem, ↓upXAbsY, ↓upXAbsZa, ↓upXOffC, c5, c6, c7, hCells, updH_same, hd, hg]
        refine ⟨by omega, inK_of (by decide) (by decide), 3, by decide, by decide, rfl, ?_⟩
        exact HpLe.upd (HpLe.upd HpLe.none ⟨_, by simp [updH], ObjLe.refl _⟩) ⟨_, updH_same _ _ _, objLe_cells (by simp [hCells, hgE])⟩
      · have hd : decide ((2 : Int) < (n : Int)) = false := decide_eq_false (by omega)
        have hgE : gE n get 2 = 0 := if_neg hlt
        rw [← hq0]
        clear hq0
        simp (maxSteps := 4000000) only [go_sem, ↓upXAbsY, ↓upXAbsZa, ↓upXOffC, c5, c6, c7, hCells, updH_same, hd]
        refine ⟨inK_of (by decide) (by decide), 3, by decide, by decide, rfl, ?_⟩
        exact HpLe.upd (HpLe.upd HpLe.none ⟨_, by simp [updH], ObjLe.refl _⟩) ⟨_, updH_same _ _ _, objLe_cells (by simp [hCells, hgE])⟩
    · by_cases hlt : 3 < n
      · have hd : decide ((3 : Int) < (n : Int)) = true := decide_eq_true (by omega)
        have hg := hget 3 hlt
        have hgE : gE n get 3 = intAt get 3 := if_pos hlt
        rw [← hq0]
        clear hq0
        simp (maxSteps := 4000000) only [go_sem, ↓upXAbsY, ↓upXAbsZa, ↓upXOffC, c5, c6, c7, hCells, updH_same, hd, hg]
        refine ⟨by omega, inK_of (by decide) (by decide), 4, by decide, by decide, rfl, ?_⟩
        exact HpLe.upd (HpLe.upd HpLe.none ⟨_, by simp [updH], ObjLe.refl _⟩) ⟨_, updH_same _ _ _, objLe_cells (by simp [hCells, hgE])⟩
      · have hd : decide ((3 : Int) < (n : Int)) = false := decide_eq_false (by omega)
        have hgE : gE n get 3 = 0 := if_neg hlt
        rw [← hq0]
        clear hq0
        simp (maxSteps := 4000000) only [go_sem, ↓upXAbsY, ↓upXAbsZa, ↓upXOffC, c5, c6, c7, hCells, updH_same, hd]
        refine ⟨inK_of (by decide) (by decide), 4, by decide, by decide, rfl, ?_⟩
        exact HpLe.upd (HpLe.upd HpLe.none ⟨_, by simp [updH], ObjLe.refl _⟩) ⟨_, updH_same _ _ _, objLe_cells (by simp [hCells, hgE])⟩
    · by_cases hlt : 4 < n
      · have hd : decide ((4 : Int) < (n : Int)) = true := decide_eq_true (by omega)
        have hg := hget 4 hlt
        have hgE : gE n get 4 = intAt get 4 := if_pos hlt
        rw [← hq0]
        clear hq0
        simp (maxSteps := 4000000) only [go_sem, ↓upXAbsY, ↓upXAbsZa, ↓upXOffC, c5, c6, c7, hCells, updH_same, hd, hg]
        refine ⟨by omega, inK_of (by decide) (by decide), 5, by decide, by decide, rfl, ?_⟩
        exact HpLe.upd (HpLe.upd HpLe.none ⟨_, by simp [updH], ObjLe.refl _⟩) ⟨_, updH_same _ _ _, objLe_cells (by simp [hCells, hgE])⟩
      · have hd : decide ((4 : Int) < (n : Int)) = false := decide_eq_false (by omega)
        have hgE : gE n get 4 = 0 := if_neg hlt
        rw [← hq0]
        clear hq0
        simp (maxSteps := 4000000) only [go_sem, ↓upXAbsY, ↓upXAbsZa, ↓upXOffC, c5, c6, c7, hCells, updH_same, hd]
        refine ⟨inK_of (by decide) (by decide), 5, by decide, by decide, rfl, ?_⟩
        exact HpLe.upd (HpLe.upd HpLe.none ⟨_, by simp [updH], ObjLe.refl _⟩) ⟨_, updH_same _ _ _, objLe_cells (by simp [hCells, hgE])⟩
    · by_cases hlt : 5 < n
      · have hd : decide ((5 : Int) < (n : Int)) = true := decide_eq_true (by omega)
        have hg := hget 5 hlt
        have hgE : gE n get 5 = intAt get 5 := if_pos hlt
        rw [← hq0]
        clear hq0
        simp (maxSteps := 4000000) only [go_sem, ↓upXAbsY, ↓upXAbsZa, ↓upXOffC, c5, c6, c7, hCells, updH_same, hd, hg]
        refine ⟨by omega, inK_of (by decide) (by decide), 6, by decide, by decide, rfl, ?_⟩
        exact HpLe.upd (HpLe.upd HpLe.none ⟨_, by simp [updH], ObjLe.refl _⟩) ⟨_, updH_same _ _ _, objLe_cells (by simp [hCells, hgE])⟩
      · have hd : decide ((5 : Int) < (n : Int)) = false := decide_eq_false (by omega)
        have hgE : gE n get 5 = 0 := if_neg hlt
        rw [← hq0]
        clear hq0
        simp (maxSteps := 4000000) only [go_sem, ↓upXAbsY, ↓upXAbsZa, ↓upXOffC, c5, c6, c7, hCells, updH_same, hd]
        refine ⟨inK_of (by decide) (by decide), 6, by decide, by decide, rfl, ?_⟩
        exact HpLe.upd (HpLe.upd HpLe.none ⟨_, by simp [updH], ObjLe.refl _⟩) ⟨_, updH_same _ _ _, objLe_cells (by simp [hCells, hgE])⟩
    · by_cases hlt : 6 < n
      · have hd : decide ((6 : Int) < (n : Int)) = true := decide_eq_true (by omega)
        have hg := hget 6 hlt
        have hgE : gE n get 6 = intAt get 6 := if_pos hlt
        rw [← hq0]
        clear hq0
        simp (maxSteps := 4000000) only [go_sem, ↓upXAbsY, ↓upXAbsZa, ↓upXOffC, c5, c6, c7, hCells, updH_same, hd, hg]
        refine ⟨by omega, inK_of (by decide) (by decide), 7, by decide, by decide, rfl, ?_⟩
        exact HpLe.upd (HpLe.upd HpLe.none ⟨_, by simp [updH], ObjLe.refl _⟩) ⟨_, updH_same _ _ _, objLe_cells (by simp [hCells, hgE])⟩
      · have hd : decide ((6 : Int) < (n : Int)) = false := decide_eq_false (by omega)
        have hgE : gE n get 6 = 0 := if_neg hlt
        rw [← hq0]
        clear hq0
        simp (maxSteps := 4000000) only [go_sem, ↓upXAbsY, ↓upXAbsZa, ↓upXOffC, c5, c6, c7, hCells, updH_same, hd]
        refine ⟨inK_of (by decide) (by decide), 7, by decide, by decide, rfl, ?_⟩
        exact HpLe.upd (HpLe.upd HpLe.none ⟨_, by simp [updH], ObjLe.refl _⟩) ⟨_, updH_same _ _ _, objLe_cells (by simp [hCells, hgE])⟩
    · by_cases hlt : 7 < n
      · have hd : decide ((7 : Int) < (n : Int)) = true := decide_eq_true (by omega)
        have hg := hget 7 hlt
        have hgE : gE n get 7 = intAt get 7 := if_pos hlt
        rw [← hq0]
        clear hq0
        simp (maxSteps := 4000000) only [go_sem, ↓upXAbsY, ↓upXAbsZa, ↓upXOffC, c5, c6, c7, hCells, updH_same, hd, hg]
        refine ⟨by omega, inK_of (by decide) (by decide), 8, by decide, by decide, rfl, ?_⟩
        exact HpLe.upd (HpLe.upd HpLe.none ⟨_, by simp [updH], ObjLe.refl _⟩) ⟨_, updH_same _ _ _, objLe_cells (by simp [hCells, hgE])⟩
      · have hd : decide ((7 : Int) < (n : Int)) = false := decide_eq_false (by omega)
        have hgE : gE n get 7 = 0 := if_neg hlt
        rw [← hq0]
        clear hq0
        simp (maxSteps := 4000000) only [go_sem, ↓upXAbsY, ↓upXAbsZa, ↓upXOffC, c5, c6, c7, hCells, updH_same, hd]
        refine ⟨inK_of (by decide) (by decide), 8, by decide, by decide, rfl, ?_⟩
        exact HpLe.upd (HpLe.upd HpLe.none ⟨_, by simp [updH], ObjLe.refl _⟩) ⟨_, updH_same _ _ _, objLe_cells (by simp [hCells, hgE])⟩
    · rw [← hq0]
      clear hq0
      simp (maxSteps := 4000000) only [go_sem, ↓upXAbsY, ↓upXAbsZa, ↓upXOffC, hCells, updH_same]
      exact VEnt.agg ⟨VEnt.refl _, VEnt.refl _, VEnt.sl fun i hi => (by obtain rfl : i = 0 := (by omega); rfl), trivial⟩

end Go.Fly.Tryz
