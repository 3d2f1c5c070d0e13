/- Part of a proof: an evaluator of the model's code by abstract values, and plain laws for it. No conditions. -/
import Derived.Test.YtfcdodaakhlppaaGreatDoorSYTEn
import Derived.Test.YtfcdodaakhlppaaGreatDoorAJ
set_option linter.unusedSimpArgs false
set_option linter.unusedVariables false
section
/- The office: first errors, lists of names. -/
set_option maxRecDepth 100000
set_option maxHeartbeats 1000000
namespace Go.Fly.Tryz
open Go Off

theorem oWhen_ok : Holds Proofs.Tryz.prog G0 49 whenC := by
  refine Holds.of_exC D49 Proofs.Tryz.func49 rfl foll (by kernel_rfl) (tab []) (tab_ok trivial) G0_ok fun k0 rl args hpu hpre => ?_
  unfold whenC at hpre ⊢
  split at hpre
  rotate_left
  · exact hpre.elim
  simp only [Proofs.Tryz.f49]
  simp (maxSteps := 4000000) only [go_sem, ↓upXAbsY, ↓upXAbsZa, ↓upXOffC]
  exact ⟨fun h => VEnt.of_eq (by simp [h, err]), fun h => VEnt.of_eq (by simp [h, err])⟩

theorem oWithin_ok : Holds Proofs.Tryz.prog G0 97 withinC := by
  refine Holds.of_exC D97 Proofs.Tryz.func97 rfl foll (by kernel_rfl) (tab [(49, whenC)]) (tab_ok ⟨oWhen_ok, trivial⟩) G0_ok fun k0 rl args hpu hpre => ?_
  unfold withinC at hpre ⊢
  split at hpre
  rotate_left
  · exact hpre.elim
  simp only [Proofs.Tryz.f97]
  simp (maxSteps := 4000000) only [go_sem, ↓upXAbsY, ↓upXAbsZa, ↓upXOffC]
  exact ⟨fun h => VEnt.of_eq (by simp [h, err, rng]), fun h => VEnt.of_eq (by simp [h, err, rng])⟩

theorem oFirst_ok : Holds Proofs.Tryz.prog G0 47 firstC := by
  refine Holds.of_exC D47 Proofs.Tryz.func47 rfl foll (by kernel_rfl) (tab []) (tab_ok trivial) G0_ok fun k0 rl args hpu hpre => ?_
  unfold firstC at hpre ⊢
  split at hpre
  rotate_left
  · exact hpre.elim
  rename_i n sz get
  obtain ⟨rfl, hn, hget⟩ := hpre
  simp only [Proofs.Tryz.f47]
  rw [enter_mkT (Nat.le_of_ble_eq_true rfl)]
  simp (maxSteps := 4000000) only [go_sem, ↓upXAbsY, ↓upXAbsZa, ↓upXOffC]
  refine RestT.loopF (β := Nat) [(2, 2), (4, 4), (7, 14)] (fun i => [(7, .int .i64 i)]) (fun _ => fun _ => none) (fun i => i ≤ n ∧ firstI (intAt get) 0 n = firstI (intAt get) i (n - i)) (fun i => n - i) 0 ⟨by omega, by simp⟩ ?_ HpLe.none ?_
  · simp (maxSteps := 4000000) only [go_sem, ↓upXAbsY, ↓upXAbsZa, ↓upXOffC]
    try simp
  · intro ck i hck hI
    have hi := hI.1
    have hf := hI.2
    simp (maxSteps := 4000000) only [go_sem, ↓upXAbsY, ↓upXAbsZa, ↓upXOffC]
    refine ⟨fun hlt => ?_, fun hge => ?_⟩
    · have hlt : i < n := by omega
      have hg := hget i hlt
      rw [firstI_step hlt] at hf
      simp (maxSteps := 4000000) only [go_sem, ↓upXAbsY, ↓upXAbsZa, ↓upXOffC, hg]
      refine ⟨by omega, fun h => VEnt.of_eq ?_, fun h => ⟨inK_of (by omega) (by omega), i + 1, ⟨by omega, ?_⟩, by omega, rfl, HpLe.none⟩⟩
      · simp at h
        rw [hf, if_pos h]
      · simp at h
        rw [hf, if_neg (by simpa using h)]
    · rw [hf, firstI_end (by omega)]
      exact VEnt.of_eq rfl

theorem oNmTy_ok : Holds Proofs.Tryz.prog G0 191 (nmC encTy decTy Ty.name) := by
  refine Holds.of_exC D191 Proofs.Tryz.func191 rfl foll (by kernel_rfl) (tab [(iceKey 1, iceC)]) (tab_ok ⟨ice_holds, trivial⟩) G0_ok fun k0 rl args hpu hpre => ?_
  unfold nmC at hpre ⊢
  obtain ⟨t, rfl⟩ := hpre
  simp only [Proofs.Tryz.f191]
  rw [enter_mkT (Nat.le_of_ble_eq_true rfl)]
  simp (maxSteps := 4000000) only [go_sem, ↓upXAbsY, ↓upXAbsZa, ↓upXOffC, encTy]
  exact VEnt.of_eq rfl

theorem oNmHo_ok : Holds Proofs.Tryz.prog G0 193 (nmC encHo decHo Ho.name) := by
  refine Holds.of_exC D193 Proofs.Tryz.func193 rfl foll (by kernel_rfl) (tab [(iceKey 1, iceC)]) (tab_ok ⟨ice_holds, trivial⟩) G0_ok fun k0 rl args hpu hpre => ?_
  unfold nmC at hpre ⊢
  obtain ⟨t, rfl⟩ := hpre
  simp only [Proofs.Tryz.f193]
  rw [enter_mkT (Nat.le_of_ble_eq_true rfl)]
  simp (maxSteps := 4000000) only [go_sem, ↓upXAbsY, ↓upXAbsZa, ↓upXOffC, encHo]
  exact VEnt.of_eq rfl

theorem oNmFl_ok : Holds Proofs.Tryz.prog G0 195 (nmC encFl decFl Fl.name) := by
  refine Holds.of_exC D195 Proofs.Tryz.func195 rfl foll (by kernel_rfl) (tab [(iceKey 1, iceC)]) (tab_ok ⟨ice_holds, trivial⟩) G0_ok fun k0 rl args hpu hpre => ?_
  unfold nmC at hpre ⊢
  obtain ⟨t, rfl⟩ := hpre
  simp only [Proofs.Tryz.f195]
  rw [enter_mkT (Nat.le_of_ble_eq_true rfl)]
  simp (maxSteps := 4000000) only [go_sem, ↓upXAbsY, ↓upXAbsZa, ↓upXOffC, encFl]
  exact VEnt.of_eq rfl

theorem oNmMp_ok : Holds Proofs.Tryz.prog G0 197 (nmC encMp decMp Mp.name) := by
  refine Holds.of_exC D197 Proofs.Tryz.func197 rfl foll (by kernel_rfl) (tab [(iceKey 1, iceC)]) (tab_ok ⟨ice_holds, trivial⟩) G0_ok fun k0 rl args hpu hpre => ?_
  unfold nmC at hpre ⊢
  obtain ⟨t, rfl⟩ := hpre
  simp only [Proofs.Tryz.f197]
  rw [enter_mkT (Nat.le_of_ble_eq_true rfl)]
  simp (maxSteps := 4000000) only [go_sem, ↓upXAbsY, ↓upXAbsZa, ↓upXOffC, encMp]
  exact VEnt.of_eq rfl

theorem oNmOf_ok : Holds Proofs.Tryz.prog G0 199 (nmC encOf decOf Of.name) := by
  refine Holds.of_exC D199 Proofs.Tryz.func199 rfl foll (by kernel_rfl) (tab [(iceKey 1, iceC)]) (tab_ok ⟨ice_holds, trivial⟩) G0_ok fun k0 rl args hpu hpre => ?_
  unfold nmC at hpre ⊢
  obtain ⟨t, rfl⟩ := hpre
  simp only [Proofs.Tryz.f199]
  rw [enter_mkT (Nat.le_of_ble_eq_true rfl)]
  simp (maxSteps := 4000000) only [go_sem, ↓upXAbsY, ↓upXAbsZa, ↓upXOffC, encOf]
  exact VEnt.of_eq rfl

theorem oNmCo_ok : Holds Proofs.Tryz.prog G0 200 (nmC encCo decCo Co.name) := by
  refine Holds.of_exC D200 Proofs.Tryz.func200 rfl foll (by kernel_rfl) (tab [(iceKey 1, iceC)]) (tab_ok ⟨ice_holds, trivial⟩) G0_ok fun k0 rl args hpu hpre => ?_
  unfold nmC at hpre ⊢
  obtain ⟨t, rfl⟩ := hpre
  simp only [Proofs.Tryz.f200]
  rw [enter_mkT (Nat.le_of_ble_eq_true rfl)]
  simp (maxSteps := 4000000) only [go_sem, ↓upXAbsY, ↓upXAbsZa, ↓upXOffC, encCo]
  exact VEnt.of_eq rfl

theorem oMapTy_ok : Holds Proofs.Tryz.prog G0 190 (mapNmC 3 encTy decTy Ty.name 191) := by
  refine Holds.of_exC D190 Proofs.Tryz.func190 rfl foll (by kernel_rfl) (tab [(191, nmC encTy decTy Ty.name)]) (tab_ok ⟨oNmTy_ok, trivial⟩) G0_ok fun k0 rl args hpu hpre => ?_
  unfold mapNmC at hpre ⊢
  obtain ⟨l, rfl, hl⟩ := hpre
  simp only [arg_0, dec_tys]
  simp only [Proofs.Tryz.f190]
  rw [enter_mkT (Nat.le_of_ble_eq_true rfl)]
  simp (maxSteps := 4000000) only [go_sem, ↓upXAbsY, ↓upXAbsZa, ↓upXOffC, encRows, encTy]
  refine RestT.ents (Ents.nilArr (d := 5) (l := (4, 1000)) 1 (fun _ => []) rfl rfl rfl) ?_
  simp (maxSteps := 4000000) only [go_sem, ↓upXAbsY, ↓upXAbsZa, ↓upXOffC]
  refine RestT.loopF (β := Nat) [(5, 5), (7, 7), (10, 20)] (fun i => [(5, .msl (4, 1000) 0 i), (10, .int .i64 i)]) (fun i => updH (fun _ => none) (4, 1000) (.arr i 1 (fun i => [.str (el l i).name]))) (fun i => i ≤ l.length) (fun i => l.length - i) 0 (Nat.zero_le _) ?_ (HpLe.arr1 (updH_same _ _ _) rfl rfl fun i hi => by omega) ?_
  · simp (maxSteps := 4000000) only [go_sem, ↓upXAbsY, ↓upXAbsZa, ↓upXOffC]
    try simp
  · intro ck i hck hi
    generalize hq0 : exC _ _ _ _ _ = gg
    by_cases hlt : i < l.length
    · have hd : decide ((i : Int) < (l.length : Int)) = true := by simp; omega
      rw [← hq0]
      clear hq0
      simp (maxSteps := 4000000) only [go_sem, ↓upXAbsY, ↓upXAbsZa, ↓upXOffC, hd, encRows, encTy]
      exact ⟨⟨by omega, by omega⟩, ⟨el l i, rfl⟩, ⟨by omega, by omega, row_ok rfl ones_str⟩, inK_of (by omega) (by omega), i + 1, hlt, by omega, ⟨rfl, rfl⟩, HpLe.arr1 (updH_same _ _ _) rfl rfl fun j hj => snoc (f := fun i => [.str (el l i).name]) rfl rfl hj⟩
    · have hd : decide ((i : Int) < (l.length : Int)) = false := by simp; omega
      obtain rfl : i = l.length := by omega
      rw [← hq0]
      clear hq0
      simp (maxSteps := 4000000) only [go_sem, ↓upXAbsY, ↓upXAbsZa, ↓upXOffC, hd, Nat.zero_add]
      exact vent_map rfl fun i hi => rfl

theorem oMapHo_ok : Holds Proofs.Tryz.prog G0 192 (mapNmC 2 encHo decHo Ho.name 193) := by
  refine Holds.of_exC D192 Proofs.Tryz.func192 rfl foll (by kernel_rfl) (tab [(193, nmC encHo decHo Ho.name)]) (tab_ok ⟨oNmHo_ok, trivial⟩) G0_ok fun k0 rl args hpu hpre => ?_
  unfold mapNmC at hpre ⊢
  obtain ⟨l, rfl, hl⟩ := hpre
  simp only [arg_0, dec_hos]
  simp only [Proofs.Tryz.f192]
  rw [enter_mkT (Nat.le_of_ble_eq_true rfl)]
  simp (maxSteps := 4000000) only [go_sem, ↓upXAbsY, ↓upXAbsZa, ↓upXOffC, encRows, encHo]
  refine RestT.ents (Ents.nilArr (d := 5) (l := (4, 1000)) 1 (fun _ => []) rfl rfl rfl) ?_
  simp (maxSteps := 4000000) only [go_sem, ↓upXAbsY, ↓upXAbsZa, ↓upXOffC]
  refine RestT.loopF (β := Nat) [(5, 5), (7, 7), (10, 20)] (fun i => [(5, .msl (4, 1000) 0 i), (10, .int .i64 i)]) (fun i => updH (fun _ => none) (4, 1000) (.arr i 1 (fun i => [.str (el l i).name]))) (fun i => i ≤ l.length) (fun i => l.length - i) 0 (Nat.zero_le _) ?_ (HpLe.arr1 (updH_same _ _ _) rfl rfl fun i hi => by omega) ?_
  · simp (maxSteps := 4000000) only [go_sem, ↓upXAbsY, ↓upXAbsZa, ↓upXOffC]
    try simp
  · intro ck i hck hi
    generalize hq0 : exC _ _ _ _ _ = gg
    by_cases hlt : i < l.length
    · have hd : decide ((i : Int) < (l.length : Int)) = true := by simp; omega
      rw [← hq0]
      clear hq0
      simp (maxSteps := 4000000) only [go_sem, ↓upXAbsY, ↓upXAbsZa, ↓upXOffC, hd, encRows, encHo]
      exact ⟨⟨by omega, by omega⟩, ⟨el l i, rfl⟩, ⟨by omega, by omega, row_ok rfl ones_str⟩, inK_of (by omega) (by omega), i + 1, hlt, by omega, ⟨rfl, rfl⟩, HpLe.arr1 (updH_same _ _ _) rfl rfl fun j hj => snoc (f := fun i => [.str (el l i).name]) rfl rfl hj⟩
    · have hd : decide ((i : Int) < (l.length : Int)) = false := by simp; omega
      obtain rfl : i = l.length := by omega
      rw [← hq0]
      clear hq0
      simp (maxSteps := 4000000) only [go_sem, ↓upXAbsY, ↓upXAbsZa, ↓upXOffC, hd, Nat.zero_add]
      exact vent_map rfl fun i hi => rfl

theorem oMapFl_ok : Holds Proofs.Tryz.prog G0 194 (mapNmC 5 encFl decFl Fl.name 195) := by
  refine Holds.of_exC D194 Proofs.Tryz.func194 rfl foll (by kernel_rfl) (tab [(195, nmC encFl decFl Fl.name)]) (tab_ok ⟨oNmFl_ok, trivial⟩) G0_ok fun k0 rl args hpu hpre => ?_
  unfold mapNmC at hpre ⊢
  obtain ⟨l, rfl, hl⟩ := hpre
  simp only [arg_0, dec_fls]
  simp only [Proofs.Tryz.f194]
  rw [enter_mkT (Nat.le_of_ble_eq_true rfl)]
  simp (maxSteps := 4000000) only [go_sem, ↓upXAbsY, ↓upXAbsZa, ↓upXOffC, encRows, encFl]
  refine RestT.ents (Ents.nilArr (d := 5) (l := (4, 1000)) 1 (fun _ => []) rfl rfl rfl) ?_
  simp (maxSteps := 4000000) only [go_sem, ↓upXAbsY, ↓upXAbsZa, ↓upXOffC]
  refine RestT.loopF (β := Nat) [(5, 5), (7, 7), (10, 20)] (fun i => [(5, .msl (4, 1000) 0 i), (10, .int .i64 i)]) (fun i => updH (fun _ => none) (4, 1000) (.arr i 1 (fun i => [.str (el l i).name]))) (fun i => i ≤ l.length) (fun i => l.length - i) 0 (Nat.zero_le _) ?_ (HpLe.arr1 (updH_same _ _ _) rfl rfl fun i hi => by omega) ?_
  · simp (maxSteps := 4000000) only [go_sem, ↓upXAbsY, ↓upXAbsZa, ↓upXOffC]
    try simp
  · intro ck i hck hi
    generalize hq0 : exC _ _ _ _ _ = gg
    by_cases hlt : i < l.length
    · have hd : decide ((i : Int) < (l.length : Int)) = true := by simp; omega
      rw [← hq0]
      clear hq0
      simp (maxSteps := 4000000) only [go_sem, ↓upXAbsY, ↓upXAbsZa, ↓upXOffC, hd, encRows, encFl]
      exact ⟨⟨by omega, by omega⟩, ⟨el l i, rfl⟩, ⟨by omega, by omega, row_ok rfl ones_str⟩, inK_of (by omega) (by omega), i + 1, hlt, by omega, ⟨rfl, rfl⟩, HpLe.arr1 (updH_same _ _ _) rfl rfl fun j hj => snoc (f := fun i => [.str (el l i).name]) rfl rfl hj⟩
    · have hd : decide ((i : Int) < (l.length : Int)) = false := by simp; omega
      obtain rfl : i = l.length := by omega
      rw [← hq0]
      clear hq0
      simp (maxSteps := 4000000) only [go_sem, ↓upXAbsY, ↓upXAbsZa, ↓upXOffC, hd, Nat.zero_add]
      exact vent_map rfl fun i hi => rfl

theorem oMapMp_ok : Holds Proofs.Tryz.prog G0 196 (mapNmC 3 encMp decMp Mp.name 197) := by
  refine Holds.of_exC D196 Proofs.Tryz.func196 rfl foll (by kernel_rfl) (tab [(197, nmC encMp decMp Mp.name)]) (tab_ok ⟨oNmMp_ok, trivial⟩) G0_ok fun k0 rl args hpu hpre => ?_
  unfold mapNmC at hpre ⊢
  obtain ⟨l, rfl, hl⟩ := hpre
  simp only [arg_0, dec_mps]
  simp only [Proofs.Tryz.f196]
  rw [enter_mkT (Nat.le_of_ble_eq_true rfl)]
  simp (maxSteps := 4000000) only [go_sem, ↓upXAbsY, ↓upXAbsZa, ↓upXOffC, encRows, encMp]
  refine RestT.ents (Ents.nilArr (d := 5) (l := (4, 1000)) 1 (fun _ => []) rfl rfl rfl) ?_
  simp (maxSteps := 4000000) only [go_sem, ↓upXAbsY, ↓upXAbsZa, ↓upXOffC]
  refine RestT.loopF (β := Nat) [(5, 5), (7, 7), (10, 20)] (fun i => [(5, .msl (4, 1000) 0 i), (10, .int .i64 i)]) (fun i => updH (fun _ => none) (4, 1000) (.arr i 1 (fun i => [.str (el l i).name]))) (fun i => i ≤ l.length) (fun i => l.length - i) 0 (Nat.zero_le _) ?_ (HpLe.arr1 (updH_same _ _ _) rfl rfl fun i hi => by omega) ?_
  · simp (maxSteps := 4000000) only [go_sem, ↓upXAbsY, ↓upXAbsZa, ↓upXOffC]
    try simp
  · intro ck i hck hi
    generalize hq0 : exC _ _ _ _ _ = gg
    by_cases hlt : i < l.length
    · have hd : decide ((i : Int) < (l.length : Int)) = true := by simp; omega
      rw [← hq0]
      clear hq0
      simp (maxSteps := 4000000) only [go_sem, ↓upXAbsY, ↓upXAbsZa, ↓upXOffC, hd, encRows, encMp]
      exact ⟨⟨by omega, by omega⟩, ⟨el l i, rfl⟩, ⟨by omega, by omega, row_ok rfl ones_str⟩, inK_of (by omega) (by omega), i + 1, hlt, by omega, ⟨rfl, rfl⟩, HpLe.arr1 (updH_same _ _ _) rfl rfl fun j hj => snoc (f := fun i => [.str (el l i).name]) rfl rfl hj⟩
    · have hd : decide ((i : Int) < (l.length : Int)) = false := by simp; omega
      obtain rfl : i = l.length := by omega
      rw [← hq0]
      clear hq0
      simp (maxSteps := 4000000) only [go_sem, ↓upXAbsY, ↓upXAbsZa, ↓upXOffC, hd, Nat.zero_add]
      exact vent_map rfl fun i hi => rfl

theorem oMapOf_ok : Holds Proofs.Tryz.prog G0 198 (mapNmC 4 encOf decOf Of.name 199) := by
  refine Holds.of_exC D198 Proofs.Tryz.func198 rfl foll (by kernel_rfl) (tab [(199, nmC encOf decOf Of.name)]) (tab_ok ⟨oNmOf_ok, trivial⟩) G0_ok fun k0 rl args hpu hpre => ?_
  unfold mapNmC at hpre ⊢
  obtain ⟨l, rfl, hl⟩ := hpre
  simp only [arg_0, dec_ofs]
  simp only [Proofs.Tryz.f198]
  rw [enter_mkT (Nat.le_of_ble_eq_true rfl)]
  simp (maxSteps := 4000000) only [go_sem, ↓upXAbsY, ↓upXAbsZa, ↓upXOffC, encRows, encOf]
  refine RestT.ents (Ents.nilArr (d := 5) (l := (4, 1000)) 1 (fun _ => []) rfl rfl rfl) ?_
  simp (maxSteps := 4000000) only [go_sem, ↓upXAbsY, ↓upXAbsZa, ↓upXOffC]
  refine RestT.loopF (β := Nat) [(5, 5), (7, 7), (10, 20)] (fun i => [(5, .msl (4, 1000) 0 i), (10, .int .i64 i)]) (fun i => updH (fun _ => none) (4, 1000) (.arr i 1 (fun i => [.str (el l i).name]))) (fun i => i ≤ l.length) (fun i => l.length - i) 0 (Nat.zero_le _) ?_ (HpLe.arr1 (updH_same _ _ _) rfl rfl fun i hi => by omega) ?_
  · simp (maxSteps := 4000000) only [go_sem, ↓upXAbsY, ↓upXAbsZa, ↓upXOffC]
    try simp
  · intro ck i hck hi
    generalize hq0 : exC _ _ _ _ _ = gg
    by_cases hlt : i < l.length
    · have hd : decide ((i : Int) < (l.length : Int)) = true := by simp; omega
      rw [← hq0]
      clear hq0
      simp (maxSteps := 4000000) only [go_sem, ↓upXAbsY, ↓upXAbsZa, ↓upXOffC, hd, encRows, encOf]
      exact ⟨⟨by omega, by omega⟩, ⟨el l i, rfl⟩, ⟨by omega, by omega, row_ok rfl ones_str⟩, inK_of (by omega) (by omega), i + 1, hlt, by omega, ⟨rfl, rfl⟩, HpLe.arr1 (updH_same _ _ _) rfl rfl fun j hj => snoc (f := fun i => [.str (el l i).name]) rfl rfl hj⟩
    · have hd : decide ((i : Int) < (l.length : Int)) = false := by simp; omega
      obtain rfl : i = l.length := by omega
      rw [← hq0]
      clear hq0
      simp (maxSteps := 4000000) only [go_sem, ↓upXAbsY, ↓upXAbsZa, ↓upXOffC, hd, Nat.zero_add]
      exact vent_map rfl fun i hi => rfl

theorem oMapCo_ok : Holds Proofs.Tryz.prog G0 134 (mapNmC 6 encCo decCo Co.name 200) := by
  refine Holds.of_exC D134 Proofs.Tryz.func134 rfl foll (by kernel_rfl) (tab [(200, nmC encCo decCo Co.name)]) (tab_ok ⟨oNmCo_ok, trivial⟩) G0_ok fun k0 rl args hpu hpre => ?_
  unfold mapNmC at hpre ⊢
  obtain ⟨l, rfl, hl⟩ := hpre
  simp only [arg_0, dec_cos]
  simp only [Proofs.Tryz.f134]
  rw [enter_mkT (Nat.le_of_ble_eq_true rfl)]
  simp (maxSteps := 4000000) only [go_sem, ↓upXAbsY, ↓upXAbsZa, ↓upXOffC, encRows, encCo]
  refine RestT.ents (Ents.nilArr (d := 5) (l := (4, 1000)) 1 (fun _ => []) rfl rfl rfl) ?_
  simp (maxSteps := 4000000) only [go_sem, ↓upXAbsY, ↓upXAbsZa, ↓upXOffC]
  refine RestT.loopF (β := Nat) [(5, 5), (7, 7), (10, 20)] (fun i => [(5, .msl (4, 1000) 0 i), (10, .int .i64 i)]) (fun i => updH (fun _ => none) (4, 1000) (.arr i 1 (fun i => [.str (el l i).name]))) (fun i => i ≤ l.length) (fun i => l.length - i) 0 (Nat.zero_le _) ?_ (HpLe.arr1 (updH_same _ _ _) rfl rfl fun i hi => by omega) ?_
  · simp (maxSteps := 4000000) only [go_sem, ↓upXAbsY, ↓upXAbsZa, ↓upXOffC]
    try simp
  · intro ck i hck hi
    generalize hq0 : exC _ _ _ _ _ = gg
    by_cases hlt : i < l.length
    · have hd : decide ((i : Int) < (l.length : Int)) = true := by simp; omega
      rw [← hq0]
      clear hq0
      simp (maxSteps := 4000000) only [go_sem, ↓upXAbsY, ↓upXAbsZa, ↓upXOffC, hd, encRows, encCo]
      exact ⟨⟨by omega, by omega⟩, ⟨el l i, rfl⟩, ⟨by omega, by omega, row_ok rfl ones_str⟩, inK_of (by omega) (by omega), i + 1, hlt, by omega, ⟨rfl, rfl⟩, HpLe.arr1 (updH_same _ _ _) rfl rfl fun j hj => snoc (f := fun i => [.str (el l i).name]) rfl rfl hj⟩
    · have hd : decide ((i : Int) < (l.length : Int)) = false := by simp; omega
      obtain rfl : i = l.length := by omega
      rw [← hq0]
      clear hq0
      simp (maxSteps := 4000000) only [go_sem, ↓upXAbsY, ↓upXAbsZa, ↓upXOffC, hd, Nat.zero_add]
      exact vent_map rfl fun i hi => rfl

theorem sIndex_ok : Holds Proofs.Tryz.prog G0 118 idxSC := by
  refine Holds.of_exC D118 Proofs.Tryz.func118 rfl foll (by kernel_rfl) (tab []) (tab_ok trivial) G0_ok fun k0 rl args hpu hpre => ?_
  unfold idxSC at hpre ⊢
  obtain ⟨n, get, s, rfl, hn, hget⟩ := hpre
  simp only [arg_0, arg_1, strOf_str]
  obtain ⟨l, hl⟩ : ∃ l, decStrs (.sl n 1 get) = l := ⟨_, rfl⟩
  have hll : l.length = n := by rw [← hl, dec_sl]; simp
  have hg : ∀ i, i < n → get i = [.str (el l i)] := fun i hi => by
    rw [hget i hi, ← hl, dec_sl]
    simp [el, hi]
  rw [hl]
  simp only [Proofs.Tryz.f118]
  rw [enter_mkT (Nat.le_of_ble_eq_true rfl)]
  simp (maxSteps := 4000000) only [go_sem, ↓upXAbsY, ↓upXAbsZa, ↓upXOffC]
  refine RestT.loopF (β := Nat) [(4, 5), (8, 18)] (fun i => [(8, .int .i64 i)]) (fun _ => fun _ => none) (fun i => i ≤ n ∧ ∀ j, j < i → el l j ≠ s) (fun i => n - i) 0 ⟨Nat.zero_le _, fun j hj => by omega⟩ ?_ HpLe.none ?_
  · simp (maxSteps := 4000000) only [go_sem, ↓upXAbsY, ↓upXAbsZa, ↓upXOffC]
    try simp
  · intro ck i hck hI
    obtain ⟨hi, hb⟩ := hI
    generalize hq0 : exC _ _ _ _ _ = gg
    by_cases hlt : i < n
    · have hd : decide ((i : Int) < (n : Int)) = true := by simp; omega
      have hgi := hg i hlt
      rw [← hq0]
      clear hq0
      simp (maxSteps := 4000000) only [go_sem, ↓upXAbsY, ↓upXAbsZa, ↓upXOffC, hd, hgi]
      refine ⟨⟨by omega, by omega⟩, fun h => VEnt.of_eq (by rw [idx_of (by omega) h.symm hb]), fun h => ⟨inK_of (by omega) (by omega), i + 1, ⟨hlt, fun j hj => ?_⟩, by omega, rfl, HpLe.none⟩⟩
      by_cases e : j = i
      · subst e; exact fun q => h q.symm
      · exact hb j (by omega)
    · have hd : decide ((i : Int) < (n : Int)) = false := by simp; omega
      obtain rfl : i = n := by omega
      rw [← hq0]
      clear hq0
      simp (maxSteps := 4000000) only [go_sem, ↓upXAbsY, ↓upXAbsZa, ↓upXOffC, hd]
      exact VEnt.of_eq (by rw [idx_none (by rw [hll]; exact hb)])

theorem sContains_ok : Holds Proofs.Tryz.prog G0 102 containsC := by
  refine Holds.of_exC D102 Proofs.Tryz.func102 rfl foll (by kernel_rfl) (tab [(118, idxSC)]) (tab_ok ⟨sIndex_ok, trivial⟩) G0_ok fun k0 rl args hpu hpre => ?_
  unfold containsC at hpre ⊢
  obtain ⟨n, get, s, rfl, hn, hget⟩ := hpre
  simp only [arg_0, arg_1, strOf_str]
  have hpu : Pu (.sl n 1 get) := pu_sl.2 fun i hi v hv => by rw [hget i hi] at hv; rw [List.mem_singleton.1 hv]; exact .str _
  simp only [Proofs.Tryz.f102]
  rw [enter_mkT (Nat.le_of_ble_eq_true rfl)]
  simp (maxSteps := 4000000) only [go_sem, ↓upXAbsY, ↓upXAbsZa, ↓upXOffC, hpu]
  exact ⟨⟨n, get, s, rfl, hn, hget⟩, VEnt.of_eq (congrArg V.bool (idx_nonneg.trans (decide_eq_decide.2 Iff.rfl)))⟩
end Go.Fly.Tryz
end
section
/- The office: names, and what has a name. -/
set_option maxRecDepth 100000
set_option maxHeartbeats 1000000
namespace Go.Fly.Tryz
open Go Off

theorem oNames_ok : Holds Proofs.Tryz.prog G0 104 namesC := by
  refine Holds.of_exC D104 Proofs.Tryz.func104 rfl foll (by kernel_rfl) (tab [(134, mapNmC 6 encCo decCo Co.name 200), (190, mapNmC 3 encTy decTy Ty.name 191), (191, nmC encTy decTy Ty.name), (192, mapNmC 2 encHo decHo Ho.name 193), (193, nmC encHo decHo Ho.name), (194, mapNmC 5 encFl decFl Fl.name 195), (195, nmC encFl decFl Fl.name), (196, mapNmC 3 encMp decMp Mp.name 197), (197, nmC encMp decMp Mp.name), (198, mapNmC 4 encOf decOf Of.name 199), (199, nmC encOf decOf Of.name), (200, nmC encCo decCo Co.name)]) (tab_ok ⟨oMapCo_ok, oMapTy_ok, oNmTy_ok, oMapHo_ok, oNmHo_ok, oMapFl_ok, oNmFl_ok, oMapMp_ok, oNmMp_ok, oMapOf_ok, oNmOf_ok, oNmCo_ok, trivial⟩) G0_ok fun k0 rl args hpu hpre => ?_
  unfold namesC at hpre ⊢
  obtain ⟨r, c, rfl, hr⟩ := hpre
  simp only [arg_0, arg_1, cellsOf_cptr, dec_reg, intOf_int]
  obtain ⟨h1, h2, h3, h4, h5, h6⟩ := hr
  by_cases e1 : c = 116
  · have d1 : decide (c = 116) = true := decide_eq_true e1
    simp only [Proofs.Tryz.f104]
    rw [enter_mkT (Nat.le_of_ble_eq_true rfl)]
    simp (maxSteps := 4000000) only [go_sem, ↓upXAbsY, ↓upXAbsZa, ↓upXOffC, d1]
    exact ⟨⟨_, rfl, h1⟩, VEnt.of_eq (by rw [Reg.namesOf, if_pos e1])⟩
  have d1 : decide (c = 116) = false := decide_eq_false e1
  by_cases e2 : c = 104
  · have d2 : decide (c = 104) = true := decide_eq_true e2
    simp only [Proofs.Tryz.f104]
    rw [enter_mkT (Nat.le_of_ble_eq_true rfl)]
    simp (maxSteps := 4000000) only [go_sem, ↓upXAbsY, ↓upXAbsZa, ↓upXOffC, d1, d2]
    exact ⟨⟨_, rfl, h2⟩, VEnt.of_eq (by rw [Reg.namesOf, if_neg e1, if_pos e2])⟩
  have d2 : decide (c = 104) = false := decide_eq_false e2
  by_cases e3 : c = 102
  · have d3 : decide (c = 102) = true := decide_eq_true e3
    simp only [Proofs.Tryz.f104]
    rw [enter_mkT (Nat.le_of_ble_eq_true rfl)]
    simp (maxSteps := 4000000) only [go_sem, ↓upXAbsY, ↓upXAbsZa, ↓upXOffC, d1, d2, d3]
    exact ⟨⟨_, rfl, h3⟩, VEnt.of_eq (by rw [Reg.namesOf, if_neg e1, if_neg e2, if_pos e3])⟩
  have d3 : decide (c = 102) = false := decide_eq_false e3
  by_cases e4 : c = 109
  · have d4 : decide (c = 109) = true := decide_eq_true e4
    simp only [Proofs.Tryz.f104]
    rw [enter_mkT (Nat.le_of_ble_eq_true rfl)]
    simp (maxSteps := 4000000) only [go_sem, ↓upXAbsY, ↓upXAbsZa, ↓upXOffC, d1, d2, d3, d4]
    exact ⟨⟨_, rfl, h4⟩, VEnt.of_eq (by rw [Reg.namesOf, if_neg e1, if_neg e2, if_neg e3, if_pos e4])⟩
  have d4 : decide (c = 109) = false := decide_eq_false e4
  by_cases e5 : c = 111
  · have d5 : decide (c = 111) = true := decide_eq_true e5
    simp only [Proofs.Tryz.f104]
    rw [enter_mkT (Nat.le_of_ble_eq_true rfl)]
    simp (maxSteps := 4000000) only [go_sem, ↓upXAbsY, ↓upXAbsZa, ↓upXOffC, d1, d2, d3, d4, d5]
    exact ⟨⟨_, rfl, h5⟩, VEnt.of_eq (by rw [Reg.namesOf, if_neg e1, if_neg e2, if_neg e3, if_neg e4, if_pos e5])⟩
  have d5 : decide (c = 111) = false := decide_eq_false e5
  simp only [Proofs.Tryz.f104]
  rw [enter_mkT (Nat.le_of_ble_eq_true rfl)]
  simp (maxSteps := 4000000) only [go_sem, ↓upXAbsY, ↓upXAbsZa, ↓upXOffC, d1, d2, d3, d4, d5]
  exact ⟨⟨_, rfl, h6⟩, VEnt.of_eq (by rw [Reg.namesOf, if_neg e1, if_neg e2, if_neg e3, if_neg e4, if_neg e5])⟩

theorem oIndex_ok : Holds Proofs.Tryz.prog G0 66 indexC := by
  refine Holds.of_exC D66 Proofs.Tryz.func66 rfl foll (by kernel_rfl) (tab [(104, namesC), (118, idxSC)]) (tab_ok ⟨oNames_ok, sIndex_ok, trivial⟩) G0_ok fun k0 rl args hpu hpre => ?_
  unfold indexC at hpre ⊢
  obtain ⟨r, c, s, rfl, hr⟩ := hpre
  simp only [arg_0, arg_1, arg_2, cellsOf_cptr, dec_reg, intOf_int, strOf_str]
  simp only [Proofs.Tryz.f66]
  rw [enter_mkT (Nat.le_of_ble_eq_true rfl)]
  simp (maxSteps := 4000000) only [go_sem, ↓upXAbsY, ↓upXAbsZa, ↓upXOffC]
  exact ⟨⟨r, c, rfl, hr⟩, ⟨_, _, _, rfl, strsV (hr.names c)⟩, VEnt.of_eq rfl⟩

theorem oKind_ok : Holds Proofs.Tryz.prog G0 170 (findC 116 encTy Reg.typ) := by
  refine Holds.of_exC D170 Proofs.Tryz.func170 rfl foll (by kernel_rfl) (tab [(66, indexC)]) (tab_ok ⟨oIndex_ok, trivial⟩) G0_ok fun k0 rl args hpu hpre => ?_
  unfold findC at hpre ⊢
  obtain ⟨r, s, rfl, hr, hs⟩ := hpre
  simp only [arg_0, arg_1, cellsOf_cptr, dec_reg, strOf_str]
  have hix := idx_in hs
  have hlt : place (r.namesOf 116) s < r.types.length := by have := place_lt hs; rwa [show (r.namesOf 116).length = r.types.length from List.length_map _] at this
  simp only [Proofs.Tryz.f170]
  rw [enter_mkT (Nat.le_of_ble_eq_true rfl)]
  simp (maxSteps := 4000000) only [go_sem, ↓upXAbsY, ↓upXAbsZa, ↓upXOffC, hix, encRows, Int.toNat_natCast]
  exact ⟨⟨r, _, s, rfl, hr⟩, ⟨by omega, by omega⟩, VEnt.of_eq rfl⟩

theorem oHouse_ok : Holds Proofs.Tryz.prog G0 57 (findC 104 encHo Reg.house) := by
  refine Holds.of_exC D57 Proofs.Tryz.func57 rfl foll (by kernel_rfl) (tab [(66, indexC)]) (tab_ok ⟨oIndex_ok, trivial⟩) G0_ok fun k0 rl args hpu hpre => ?_
  unfold findC at hpre ⊢
  obtain ⟨r, s, rfl, hr, hs⟩ := hpre
  simp only [arg_0, arg_1, cellsOf_cptr, dec_reg, strOf_str]
  have hix := idx_in hs
  have hlt : place (r.namesOf 104) s < r.houses.length := by have := place_lt hs; rwa [show (r.namesOf 104).length = r.houses.length from List.length_map _] at this
  simp only [Proofs.Tryz.f57]
  rw [enter_mkT (Nat.le_of_ble_eq_true rfl)]
  simp (maxSteps := 4000000) only [go_sem, ↓upXAbsY, ↓upXAbsZa, ↓upXOffC, hix, encRows, Int.toNat_natCast]
  exact ⟨⟨r, _, s, rfl, hr⟩, ⟨by omega, by omega⟩, VEnt.of_eq rfl⟩

theorem oFlight_ok : Holds Proofs.Tryz.prog G0 164 (findC 102 encFl Reg.flight) := by
  refine Holds.of_exC D164 Proofs.Tryz.func164 rfl foll (by kernel_rfl) (tab [(66, indexC)]) (tab_ok ⟨oIndex_ok, trivial⟩) G0_ok fun k0 rl args hpu hpre => ?_
  unfold findC at hpre ⊢
  obtain ⟨r, s, rfl, hr, hs⟩ := hpre
  simp only [arg_0, arg_1, cellsOf_cptr, dec_reg, strOf_str]
  have hix := idx_in hs
  have hlt : place (r.namesOf 102) s < r.flights.length := by have := place_lt hs; rwa [show (r.namesOf 102).length = r.flights.length from List.length_map _] at this
  simp only [Proofs.Tryz.f164]
  rw [enter_mkT (Nat.le_of_ble_eq_true rfl)]
  simp (maxSteps := 4000000) only [go_sem, ↓upXAbsY, ↓upXAbsZa, ↓upXOffC, hix, encRows, Int.toNat_natCast]
  exact ⟨⟨r, _, s, rfl, hr⟩, ⟨by omega, by omega⟩, VEnt.of_eq rfl⟩

theorem oChart_ok : Holds Proofs.Tryz.prog G0 67 (findC 109 encMp Reg.chart) := by
  refine Holds.of_exC D67 Proofs.Tryz.func67 rfl foll (by kernel_rfl) (tab [(66, indexC)]) (tab_ok ⟨oIndex_ok, trivial⟩) G0_ok fun k0 rl args hpu hpre => ?_
  unfold findC at hpre ⊢
  obtain ⟨r, s, rfl, hr, hs⟩ := hpre
  simp only [arg_0, arg_1, cellsOf_cptr, dec_reg, strOf_str]
  have hix := idx_in hs
  have hlt : place (r.namesOf 109) s < r.maps.length := by have := place_lt hs; rwa [show (r.namesOf 109).length = r.maps.length from List.length_map _] at this
  simp only [Proofs.Tryz.f67]
  rw [enter_mkT (Nat.le_of_ble_eq_true rfl)]
  simp (maxSteps := 4000000) only [go_sem, ↓upXAbsY, ↓upXAbsZa, ↓upXOffC, hix, encRows, Int.toNat_natCast]
  exact ⟨⟨r, _, s, rfl, hr⟩, ⟨by omega, by omega⟩, VEnt.of_eq rfl⟩

theorem oOffer_ok : Holds Proofs.Tryz.prog G0 136 (findC 111 encOf Reg.offer) := by
  refine Holds.of_exC D136 Proofs.Tryz.func136 rfl foll (by kernel_rfl) (tab [(66, indexC)]) (tab_ok ⟨oIndex_ok, trivial⟩) G0_ok fun k0 rl args hpu hpre => ?_
  unfold findC at hpre ⊢
  obtain ⟨r, s, rfl, hr, hs⟩ := hpre
  simp only [arg_0, arg_1, cellsOf_cptr, dec_reg, strOf_str]
  have hix := idx_in hs
  have hlt : place (r.namesOf 111) s < r.offers.length := by have := place_lt hs; rwa [show (r.namesOf 111).length = r.offers.length from List.length_map _] at this
  simp only [Proofs.Tryz.f136]
  rw [enter_mkT (Nat.le_of_ble_eq_true rfl)]
  simp (maxSteps := 4000000) only [go_sem, ↓upXAbsY, ↓upXAbsZa, ↓upXOffC, hix, encRows, Int.toNat_natCast]
  exact ⟨⟨r, _, s, rfl, hr⟩, ⟨by omega, by omega⟩, VEnt.of_eq rfl⟩

theorem oCompl_ok : Holds Proofs.Tryz.prog G0 137 (findC 99 encCo Reg.complaint) := by
  refine Holds.of_exC D137 Proofs.Tryz.func137 rfl foll (by kernel_rfl) (tab [(66, indexC)]) (tab_ok ⟨oIndex_ok, trivial⟩) G0_ok fun k0 rl args hpu hpre => ?_
  unfold findC at hpre ⊢
  obtain ⟨r, s, rfl, hr, hs⟩ := hpre
  simp only [arg_0, arg_1, cellsOf_cptr, dec_reg, strOf_str]
  have hix := idx_in hs
  have hlt : place (r.namesOf 99) s < r.complaints.length := by have := place_lt hs; rwa [show (r.namesOf 99).length = r.complaints.length from List.length_map _] at this
  simp only [Proofs.Tryz.f137]
  rw [enter_mkT (Nat.le_of_ble_eq_true rfl)]
  simp (maxSteps := 4000000) only [go_sem, ↓upXAbsY, ↓upXAbsZa, ↓upXOffC, hix, encRows, Int.toNat_natCast]
  exact ⟨⟨r, _, s, rfl, hr⟩, ⟨by omega, by omega⟩, VEnt.of_eq rfl⟩

end Go.Fly.Tryz
end
