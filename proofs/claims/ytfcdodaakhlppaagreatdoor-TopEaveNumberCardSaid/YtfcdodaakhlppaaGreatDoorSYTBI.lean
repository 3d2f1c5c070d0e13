/- Simple functions of the sources; levels. -/
import Derived.Test.YtfcdodaakhlppaaGreatDoorSYTBC
import Derived.Test.YtfcdodaakhlppaaGreatDoorAI
set_option linter.unusedSimpArgs false
set_option linter.unusedVariables false
set_option maxRecDepth 100000
set_option maxHeartbeats 1000000
namespace Go.Fly.Tryz
open Go
theorem base_drop : ∀ {k : Nat}, k < 10 → (List.drop k [V.int .i64 10, .int .i64 13, .int .i64 16, .int .i64 20, .int .i64 25, .int .i64 32, .int .i64 40, .int .i64 50, .int .i64 63, .int .i64 79]).head? = some (.int .i64 (base10 k))
  | 0, _ | 1, _ | 2, _ | 3, _ | 4, _ | 5, _ | 6, _ | 7, _ | 8, _ | 9, _ => rfl
  | n + 10, h => by omega
theorem base10_bd (k : Int) : 10 ≤ base10 k ∧ base10 k ≤ 79 := by unfold base10; split <;> decide

theorem dThr_ok : Holds Proofs.Tryz.prog G0 233 thrC := by
  refine Holds.of_exC D233 Proofs.Tryz.func233 rfl foll (by kernel_rfl) (tab []) (tab_ok trivial) G0_ok fun k0 rl args hpu hpre => ?_
  unfold thrC at hpre ⊢
  split at hpre
  rotate_left
  · exact hpre.elim
  rename_i l
  obtain ⟨h1, h2⟩ := hpre
  obtain ⟨k, hk⟩ : ∃ k : Nat, l % 10 = k := ⟨(l % 10).toNat, by omega⟩
  obtain ⟨q, hq⟩ : ∃ q : Nat, l / 10 = q := ⟨(l / 10).toNat, by omega⟩
  have e1 : l.tmod 10 = (k : Int) := by rw [Int.tmod_eq_emod_of_nonneg h1, hk]
  have e2 : l.tdiv 10 = (q : Int) := by rw [Int.tdiv_eq_ediv_of_nonneg h1, hq]
  have hk9 : k < 10 := by omega
  have hb := base10_bd k
  have hq12 : q ≤ 12 := by omega
  have hpow : ∀ i : Nat, i ≤ 12 → (1 : Int) ≤ 10 ^ i ∧ (10 : Int) ^ i ≤ 1000000000000 := by decide
  have hmul : ∀ i : Nat, i ≤ 12 → 0 ≤ base10 k * 10 ^ i ∧ base10 k * 10 ^ i ≤ 79 * 1000000000000 := fun i hi => mul_le_of (by omega) hb.2 (by have := hpow i hi; omega) (hpow i hi).2
  have hval : thrE l = base10 k * 10 ^ q := by unfold thrE; rw [hk, hq]; rfl
  simp only [Proofs.Tryz.f233]
  simp (maxSteps := 4000000) only [go_sem, ↓upXAbsY, e1, e2, Nat.mul_one, base_drop hk9]
  refine ⟨by omega, inK_of (by omega) (by omega), ?_⟩
  refine RestT.loopI (β := Nat) [11, 12, 13, 14] (fun i => [(3, .int .i64 (base10 k * 10 ^ i)), (10, .int .i64 i)]) (fun _ => fun _ => none) (fun i => i ≤ q) (fun i => q - i) 0 (Nat.zero_le _) ?_ HpLe.none ?_
  · simp (maxSteps := 4000000) only [go_sem, ↓upXAbsY]
    try simp
  · intro ck i hck hi
    simp (maxSteps := 4000000) only [go_sem, ↓upXAbsY]
    refine ⟨fun hlt => ?_, fun hge => ?_⟩
    · have hlt : i < q := by omega
      have := hmul (i + 1) (by omega)
      rw [Int.pow_succ, ← Int.mul_assoc] at this
      refine ⟨inK_of (by omega) (by omega), inK_of (by omega) (by omega), by omega, i + 1, hlt, by omega, ⟨.inr ?_, .inr rfl⟩, HpLe.none⟩
      rw [Int.pow_succ, Int.mul_assoc]
    · have : i = q := by omega
      subst this
      exact VEnt.of_eq (by rw [hval])

theorem dLevel_ok : Holds Proofs.Tryz.prog G0 203 level1C := by
  refine Holds.of_exC D203 Proofs.Tryz.func203 rfl foll (by kernel_rfl) (tab [(233, thrC)]) (tab_ok ⟨dThr_ok, trivial⟩) G0_ok fun k0 rl args hpu hpre => ?_
  unfold level1C at hpre ⊢
  split at hpre
  rotate_left
  · exact hpre.elim
  rename_i e
  simp only [Proofs.Tryz.f203]
  simp (maxSteps := 4000000) only [go_sem, ↓upXAbsY]
  refine RestT.loopI (β := Nat) [4, 5, 6, 7, 8, 9, 10, 11, 12, 13, 14] (fun i => [(3, .int .i64 ((i : Int) - 1))]) (fun _ => fun _ => none) (fun i => i ≤ 121 ∧ levelE e = levE e (121 - i) ((i : Int) - 1)) (fun i => 121 - i) 0 ⟨by omega, rfl⟩ ?_ HpLe.none ?_
  · simp (maxSteps := 4000000) only [go_sem, ↓upXAbsY]
    try simp
  · intro ck i hck hI
    have hi := hI.1
    have hf := hI.2
    simp (maxSteps := 4000000) only [go_sem, ↓upXAbsY]
    refine ⟨fun hlt => ?_, fun hge => ?_⟩
    · rw [show 121 - i = (121 - (i + 1)) + 1 by omega] at hf
      unfold levE at hf
      refine ⟨inK_of (by omega) (by omega), ⟨by omega, by omega⟩, fun h => ⟨inK_of (by omega) (by omega), by omega, i + 1, ⟨by omega, ?_⟩, by omega, .inr ?_, HpLe.none⟩, fun h => VEnt.of_eq ?_⟩
      · rw [if_pos h] at hf
        rw [hf]
        congr 1
        omega
      · congr 1
        omega
      · rw [if_neg h] at hf
        rw [hf]
    · rw [show 121 - i = 0 by omega] at hf
      exact VEnt.of_eq (by rw [hf]; rfl)

theorem dLevel2_ok : Holds Proofs.Tryz.prog G0 106 level2C := by
  refine Holds.of_exC D106 Proofs.Tryz.func106 rfl foll (by kernel_rfl) (tab [(202, int1C (fun n => rng n 0 10000000000000)), (203, level1C)]) (tab_ok ⟨dEnergy_ok, dLevel_ok, trivial⟩) G0_ok fun k0 rl args hpu hpre => ?_
  unfold level2C at hpre ⊢
  split at hpre
  rotate_left
  · exact hpre.elim
  rename_i e
  obtain ⟨h1, h2⟩ := hpre
  simp only [Proofs.Tryz.f106]
  simp (maxSteps := 4000000) only [go_sem, ↓upXAbsY]
  have hr : rng e 0 10000000000000 = 0 := rng_zero.2 ⟨h1, h2⟩
  rw [hr]
  exact ⟨fun h => (by simp at h), fun h => VEnt.of_eq rfl⟩

end Go.Fly.Tryz
