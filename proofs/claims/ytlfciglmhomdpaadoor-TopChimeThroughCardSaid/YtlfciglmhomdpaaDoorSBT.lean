/- The law: what is heard arrives through the air as an interval. -/
import Derived.Test.YtlfciglmhomdpaaDoorSBQ
import Derived.Test.YtlfciglmhomdpaaDoorSBR
import Derived.Test.YtlfciglmhomdpaaDoorSBS
set_option linter.unusedSimpArgs false
set_option linter.unusedVariables false
set_option maxRecDepth 100000
set_option maxHeartbeats 4000000
namespace Go.Fly.Tryd
open Go

theorem tThrough_ok : Holds Proofs.Tryd.prog G0 3 throughC := by
  refine Holds.of_exC D3 Proofs.Tryd.func3 rfl foll (by kernel_rfl) (tab [(4, fitsC), (5, loudC), (6, awayC), (7, chimeC), (8, arrived2C), (9, airCopyC), (10, emitted2C), (11, sameC), (12, level2C), (iceKey 3, iceC), (iceKey 5, iceC)]) (tab_ok ⟨tFits_ok, tLoud_ok, tAway_ok, tChime_ok, aArrived_ok, tAir_ok, aEmitted_ok, tSame_ok, dLevel2_ok, ice_holds, ice_holds, trivial⟩) G0_ok fun k0 rl args hpu hpre => ?_
  unfold throughC at hpre ⊢
  split at hpre
  rotate_left
  · exact hpre.elim
  rename_i s ns zs gs d0 d1 d2 d3 d4 d5 d6 d7 side nq zq gq m zt gt n sz get x y z hx hy p ax ay az
  obtain ⟨rfl, rfl, rfl, hs, hq, ht, hsl, rfl, hair, hzk⟩ := hpre
  have hp1 := hs.pu
  have hp2 := hq.pu
  have hp3 := ht.pu
  have hp := hair.pu

  cases hf : fitsB s ns gs (dirAt d0 d1 d2 d3 d4 d5 d6 d7) side nq gq m gt n get x y z hx hy p ax ay az
  · simp only [Proofs.Tryd.f3]
    simp (maxSteps := 4000000) only [go_sem, ↓op_move, ↓op_assign, ↓op_pick, ↓op_alloc, ↓op_box, ↓op_build, ↓op_buildSlice, ↓op_load, ↓op_store, ↓op_nilCheck, ↓op_bin, ↓op_un, ↓op_convert, ↓op_makeFunc, ↓op_makeSlice, ↓op_slice, ↓op_fieldAddr, ↓op_field, ↓op_indexAddr, ↓op_index, ↓op_extract, ↓op_range, ↓op_next, ↓op_call, ↓op_builtin, ↓g_tt, ↓g_ff, ↓g_tf, ↓g_ft, ↓g_tnt, ↓g_tnf, ↓g_fnt, ↓g_fnf, hp1, hp2, hp3, hp, hf]
    exact ⟨⟨hs, hq, ht, hsl, hair, hzk⟩, VEnt.of_eq rfl⟩
  · obtain ⟨hok, hae, hns, hpl, hdr, hpo, hx2, hy2, hax, hay, hz2, haz, haz2, hno⟩ := fits_use hf
    have haok := airE_ok hae
    have hsh := sharesE_zero.1 hok.shares
    have hacn := haok.cnt
    have hab := haok.bands
    have hz0 := hpl.2.2
    have hpath : PathOk x y z (x + 1 * ax) (y + 1 * ay) (z + 1 * az) := ⟨⟨by omega, by omega, by omega⟩, ⟨by omega, by omega, by omega⟩, fun q => hno ⟨by omega, by omega, by omega⟩⟩
    have hpl2 : PlaceOk (x + 1 * ax) (y + 1 * ay) (z + 1 * az) := ⟨by omega, by omega, by omega⟩
    obtain ⟨E, hE⟩ : ∃ E, heardE (dirAt d0 d1 d2 d3 d4 d5 d6 d7) side nq gq m gt hx hy p (x + 1 * ax - x) (y + 1 * ay - y) (z + 1 * az - z) = E := ⟨_, rfl⟩
    have hEb := heardE_bd hok hx hy p (x + 1 * ax - x) (y + 1 * ay - y) (z + 1 * az - z)
    rw [hE] at hEb
    have hbb := fun i (hi : i < ns) => bandsE_bd (e := E) hEb.1 (by omega) hsh.1.1 hsh.1.2.2 hsh.2 hi
    have hsum := sum_bandsE (e := E) (f := intAt gs) hsh.1.1
    obtain ⟨B, hB⟩ : ∃ B : Nat → Int, bandsE E (intAt gs) ns = B := ⟨_, rfl⟩
    rw [hB] at hbb hsum
    obtain ⟨PL, hPL⟩ : ∃ P : Nat → Int, ∀ i, pLo n get x y z (x + 1 * ax) (y + 1 * ay) (z + 1 * az) i = P i := ⟨_, fun _ => rfl⟩
    obtain ⟨PH, hPH⟩ : ∃ P : Nat → Int, ∀ i, pHi n get x y z (x + 1 * ax) (y + 1 * ay) (z + 1 * az) i = P i := ⟨_, fun _ => rfl⟩
    have hPL2 : ∀ i, pLo n get (x + 1 * ax) (y + 1 * ay) (z + 1 * az) x y z i = PL i := fun i => by rw [pLo_sym]; exact hPL i
    have hPH2 : ∀ i, pHi n get (x + 1 * ax) (y + 1 * ay) (z + 1 * az) x y z i = PH i := fun i => by rw [pHi_sym]; exact hPH i
    have hpb : ∀ i, i < ns → 0 ≤ PL i ∧ PL i ≤ PH i ∧ PH i ≤ 1000 := fun i hi => by
      have := p_bd haok hpath (k := i) (by omega)
      rw [hPL, hPH] at this
      exact this
    have hab2 : ∀ i, i < ns → 0 ≤ arrLo (B i) (PL i) ∧ arrLo (B i) (PL i) ≤ arrHi (B i) (PH i) ∧ arrHi (B i) (PH i) ≤ B i := fun i hi => arr_bd (hbb i hi).1 (hpb i hi).1 (hpb i hi).2.1 (hpb i hi).2.2
    have hem : ∀ i, i < ns → emLo (arrLo (B i) (PL i)) (PH i) ≤ B i ∧ B i ≤ emHi (arrHi (B i) (PH i)) (PL i) := fun i hi => em_bd (hbb i hi).1 (hbb i hi).2 (hpb i hi).1 (hpb i hi).2.1 (hpb i hi).2.2
    have hz1 : 0 + ns = ns := Nat.zero_add _
    simp only [Proofs.Tryd.f3]
    simp (maxSteps := 4000000) only [go_sem, ↓op_move, ↓op_assign, ↓op_pick, ↓op_alloc, ↓op_box, ↓op_build, ↓op_buildSlice, ↓op_load, ↓op_store, ↓op_nilCheck, ↓op_bin, ↓op_un, ↓op_convert, ↓op_makeFunc, ↓op_makeSlice, ↓op_slice, ↓op_fieldAddr, ↓op_field, ↓op_indexAddr, ↓op_index, ↓op_extract, ↓op_range, ↓op_next, ↓op_call, ↓op_builtin, ↓g_tt, ↓g_ff, ↓g_tf, ↓g_ft, ↓g_tnt, ↓g_tnf, ↓g_fnt, ↓g_fnf, hp1, hp2, hp3, hp, hf, hE, hB, hPL, hPH, hPL2, hPH2, hz1, Nat.not_lt_zero, Nat.sub_zero]
    refine ⟨⟨hs, hq, ht, hsl, hair, hzk⟩, ⟨by omega, by omega, by omega, by omega, by omega, by omega⟩, ⟨hs, hq, ht, hok, hair, hae, hns, hpl, hdr, hpo, hpl2, hpath⟩, ⟨hair, by omega, fun i hi => by have := haok.same i hi; omega⟩, ⟨by omega, by omega⟩, ⟨hair, hae, hpath.back, isInts_fn _ (by omega), hns.symm, hbb⟩,
      ⟨hair, by omega, fun i hi => by have := haok.same i hi; omega⟩, ⟨by omega, by omega⟩, ⟨hair, hae, hpath, isIv_fn _ _ (by omega), hns.symm, fun i hi => ?_⟩, isIv_fn _ _ (by omega), ?_⟩
    · have h1 := hab2 i hi
      have h2 := hem i hi
      have h3 := hbb i hi
      omega
    have hs8 := hsh.1.2.1
    have hle1 := sumI_le (f := fun _ => 0) (g := fun i => arrLo (B i) (PL i)) (n := ns) fun i hi => (hab2 i hi).1
    have hle2 := sumI_le (f := fun i => arrLo (B i) (PL i)) (g := fun i => arrHi (B i) (PH i)) (n := ns) fun i hi => (hab2 i hi).2.1
    have hle3 := sumI_le (f := fun i => arrHi (B i) (PH i)) (g := B) (n := ns) fun i hi => (hab2 i hi).2.2
    have hz0s : sumI (fun _ => 0) ns = 0 := by
      have := sumI_bd (f := fun _ => 0) (a := 0) (b := 0) (n := ns) fun i hi => ⟨Int.le_refl _, Int.le_refl _⟩
      omega
    have hlv1 := levelE_mono hle2
    have hlv2 := levelE_mono hle3
    refine RestT.loopI (β := Nat) [6, 18, 19, 96, 97, 98, 99, 100, 101, 102, 103, 104, 105, 106, 107, 108, 109, 110, 111, 112, 113, 114, 115, 116, 117, 118, 119, 120, 121, 122, 123, 124, 125, 126, 127, 128, 129, 130, 131, 132, 133, 134, 135, 136, 137, 138, 139, 140, 141, 142, 143, 144, 145, 146, 147, 148, 149, 150, 151, 152, 153, 154, 155, 156, 157] (fun i => [(15, .int .i64 (sumI (fun i => arrLo (B i) (PL i)) i)), (16, .int .i64 (sumI (fun i => arrHi (B i) (PH i)) i)), (17, .int .i64 (sumI B i)), (95, .int .i64 i)]) (fun _ => _) (fun i => i ≤ ns) (fun i => ns - i) 0 (Nat.zero_le _) ?_ (HpLe.refl _) ?_
    · simp (maxSteps := 4000000) only [go_sem, ↓op_move, ↓op_assign, ↓op_pick, ↓op_alloc, ↓op_box, ↓op_build, ↓op_buildSlice, ↓op_load, ↓op_store, ↓op_nilCheck, ↓op_bin, ↓op_un, ↓op_convert, ↓op_makeFunc, ↓op_makeSlice, ↓op_slice, ↓op_fieldAddr, ↓op_field, ↓op_indexAddr, ↓op_index, ↓op_extract, ↓op_range, ↓op_next, ↓op_call, ↓op_builtin, ↓g_tt, ↓g_ff, ↓g_tf, ↓g_ft, ↓g_tnt, ↓g_tnf, ↓g_fnt, ↓g_fnf]
      try simp [sumI]
    · intro ck i hck hi
      have hk0 : ¬ ck = 0 := by omega
      generalize hq0 : exC _ _ _ _ _ = gg
      by_cases hlt : i < ns
      · have hd : decide ((i : Int) < (ns : Int)) = true := by simp; omega
        have s1 := sumI_bd (f := B) (n := i + 1) fun j hj => hbb j (by omega)
        have s2 := sumI_bd (f := fun i => arrHi (B i) (PH i)) (a := 0) (b := 10000000000000) (n := i + 1) fun j hj => by
          have h1 := hab2 j (by omega)
          have h2 := hbb j (by omega)
          omega
        have s3 := sumI_bd (f := fun i => arrLo (B i) (PL i)) (a := 0) (b := 10000000000000) (n := i + 1) fun j hj => by
          have h1 := hab2 j (by omega)
          have h2 := hbb j (by omega)
          omega
        simp only [sumI] at s1 s2 s3
        have h1 := hab2 i hlt
        have h2 := hem i hlt
        have c1 : decide (arrLo (B i) (PL i) < 0) = false := decide_eq_false (by omega)
        have c2 : decide (arrHi (B i) (PH i) < arrLo (B i) (PL i)) = false := decide_eq_false (by omega)
        have c3 : decide (B i < arrHi (B i) (PH i)) = false := decide_eq_false (by omega)
        have c4 : decide (B i < emLo (arrLo (B i) (PL i)) (PH i)) = false := decide_eq_false (by omega)
        have c5 : decide (emHi (arrHi (B i) (PH i)) (PL i) < B i) = false := decide_eq_false (by omega)
        rw [← hq0]
        clear hq0
        simp (maxSteps := 4000000) only [go_sem, ↓op_move, ↓op_assign, ↓op_pick, ↓op_alloc, ↓op_box, ↓op_build, ↓op_buildSlice, ↓op_load, ↓op_store, ↓op_nilCheck, ↓op_bin, ↓op_un, ↓op_convert, ↓op_makeFunc, ↓op_makeSlice, ↓op_slice, ↓op_fieldAddr, ↓op_field, ↓op_indexAddr, ↓op_index, ↓op_extract, ↓op_range, ↓op_next, ↓op_call, ↓op_builtin, ↓g_tt, ↓g_ff, ↓g_tf, ↓g_ft, ↓g_tnt, ↓g_tnf, ↓g_fnt, ↓g_fnf, hd, hp1, hp2, hp3, hp, c1, c2, c3, c4, c5, hk0]
        exact ⟨⟨by omega, by omega⟩, ⟨by omega, by omega⟩, ⟨by omega, by omega⟩, ⟨by omega, by omega⟩, ⟨by omega, by omega⟩, ⟨by omega, by omega⟩, inK_of (by omega) (by omega), inK_of (by omega) (by omega), ⟨by omega, by omega⟩, inK_of (by omega) (by omega), inK_of (by omega) (by omega), by omega, i + 1, hlt, by omega, ⟨rfl, rfl, rfl, rfl⟩, HpLe.drop2 (by simp [updH])⟩
      · have hd : decide ((i : Int) < (ns : Int)) = false := by simp; omega
        obtain rfl : i = ns := by omega
        have c1 : decide (levelE (sumI (fun i => arrLo (B i) (PL i)) i) ≤ levelE (sumI (fun i => arrHi (B i) (PH i)) i)) = true := decide_eq_true hlv1
        have c2 : decide (levelE (sumI (fun i => arrHi (B i) (PH i)) i) ≤ levelE (sumI B i)) = true := decide_eq_true hlv2
        rw [← hq0]
        clear hq0
        simp (maxSteps := 4000000) only [go_sem, ↓op_move, ↓op_assign, ↓op_pick, ↓op_alloc, ↓op_box, ↓op_build, ↓op_buildSlice, ↓op_load, ↓op_store, ↓op_nilCheck, ↓op_bin, ↓op_un, ↓op_convert, ↓op_makeFunc, ↓op_makeSlice, ↓op_slice, ↓op_fieldAddr, ↓op_field, ↓op_indexAddr, ↓op_index, ↓op_extract, ↓op_range, ↓op_next, ↓op_call, ↓op_builtin, ↓g_tt, ↓g_ff, ↓g_tf, ↓g_ft, ↓g_tnt, ↓g_tnf, ↓g_fnt, ↓g_fnf, hd, hp1, hp2, hp3, hp, c1, c2]
        exact ⟨⟨by omega, by omega⟩, ⟨by omega, by omega⟩, ⟨by omega, by omega⟩, VEnt.of_eq rfl⟩
end Go.Fly.Tryd
