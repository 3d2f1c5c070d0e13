/- The law: a receiver that is twice as far away; layers that let less pass; energies that are halved. -/
import Derived.Test.YtlfciglmhomdpaaSBQ
import Derived.Test.YtlfciglmhomdpaaSBR
import Derived.Test.YtlfciglmhomdpaaSBS
import Derived.Test.YtlfciglmhomdpaaSCE
import Derived.Test.YtlfciglmhomdpaaSCG
set_option linter.unusedSimpArgs false
set_option linter.unusedVariables false
set_option maxRecDepth 100000
set_option maxHeartbeats 8000000
namespace Go.Fly.Try
open Go

theorem tFar_ok : Holds Proofs.Try.prog G0 3 throughC := by
  refine Holds.of_exC D3 Proofs.Try.func3 rfl foll (by kernel_rfl) (tab [(4, fitsC), (5, loudC), (6, chimeC), (7, awayC), (8, passed2C), (9, airCopyC), (10, arrived2C), (11, ownedC), (iceKey 3, iceC), (iceKey 5, iceC), (inlKey 205, iceC), (inlKey 317, iceC)]) (tab_ok ⟨tFits_ok, tLoud_ok, tChime_ok, tAway_ok, aPassed2_ok, tAir_ok, aArrived_ok, tOwned_ok, ice_holds, ice_holds, ice_holds, ice_holds, trivial⟩) G0_ok fun k0 rl args hpu hpre => ?_
  unfold throughC at hpre ⊢
  split at hpre
  rotate_left
  · exact hpre.elim
  rename_i s ns zs gs d0 d1 d2 d3 d4 d5 d6 d7 side nq zq gq m zt gt n sz get x y z hx hy p ax ay az
  obtain ⟨rfl, rfl, rfl, hs, hq, ht, hsl, rfl, hair, hzk⟩ := hpre
  have hp1 := hs.pu
  have hp2 := hq.pu
  have hp3 := ht.pu
  have hp := hair.pu
  cases hf : fitsB s ns gs (dirAt d0 d1 d2 d3 d4 d5 d6 d7) side nq gq m gt n get x y z hx hy p ax ay az
  · simp only [Proofs.Try.f3]
    simp (maxSteps := 4000000) only [go_sem, ↓op_move, ↓op_assign, ↓op_pick, ↓op_alloc, ↓op_box, ↓op_build, ↓op_buildSlice, ↓op_load, ↓op_store, ↓op_nilCheck, ↓op_bin, ↓op_un, ↓op_convert, ↓op_makeFunc, ↓op_makeSlice, ↓op_slice, ↓op_fieldAddr, ↓op_field, ↓op_indexAddr, ↓op_index, ↓op_extract, ↓op_range, ↓op_next, ↓op_call, ↓op_builtin, ↓g_tt, ↓g_ff, ↓g_tf, ↓g_ft, ↓g_tnt, ↓g_tnf, ↓g_fnt, ↓g_fnf, hp1, hp2, hp3, hp, hf]
    exact ⟨⟨hs, hq, ht, hsl, hair, hzk⟩, VEnt.of_eq rfl⟩
  · obtain ⟨hok, hae, hns, hpl, hdr, hpo, hx2, hy2, hax, hay, hz2, haz, haz2, hno⟩ := fits_use hf
    have haok := airE_ok hae
    have hsh := sharesE_zero.1 hok.shares
    have hacn := haok.cnt
    have hab := haok.bands
    have hz0 := hpl.2.2
    have hpath : PathOk x y z (x + 1 * ax) (y + 1 * ay) (z + 1 * az) := ⟨⟨by omega, by omega, by omega⟩, ⟨by omega, by omega, by omega⟩, fun q => hno ⟨by omega, by omega, by omega⟩⟩
    have hpath2 : PathOk x y z (x + 2 * ax) (y + 2 * ay) (z + 2 * az) := ⟨⟨by omega, by omega, by omega⟩, ⟨by omega, by omega, by omega⟩, fun q => hno ⟨by omega, by omega, by omega⟩⟩
    have hpl2 : PlaceOk (x + 1 * ax) (y + 1 * ay) (z + 1 * az) := ⟨by omega, by omega, by omega⟩
    have hpl3 : PlaceOk (x + 2 * ax) (y + 2 * ay) (z + 2 * az) := ⟨by omega, by omega, by omega⟩
    have hE12 : heardE (dirAt d0 d1 d2 d3 d4 d5 d6 d7) side nq gq m gt hx hy p (x + 2 * ax - x) (y + 2 * ay - y) (z + 2 * az - z) ≤ heardE (dirAt d0 d1 d2 d3 d4 d5 d6 d7) side nq gq m gt hx hy p (x + 1 * ax - x) (y + 1 * ay - y) (z + 1 * az - z) := by
      rw [show x + 2 * ax - x = 2 * ax by omega, show y + 2 * ay - y = 2 * ay by omega, show z + 2 * az - z = 2 * az by omega, show x + 1 * ax - x = ax by omega, show y + 1 * ay - y = ay by omega, show z + 1 * az - z = az by omega]
      exact heard_far hok hx hy p ax ay az
    have hE14 := heard_qu hok hx hy p (x + 1 * ax - x) (y + 1 * ay - y) (z + 1 * az - z)
    have hEb := heardE_bd hok hx hy p (x + 1 * ax - x) (y + 1 * ay - y) (z + 1 * az - z)
    have hEb2 := heardE_bd hok hx hy p (x + 2 * ax - x) (y + 2 * ay - y) (z + 2 * az - z)
    have hEb4 := heardE_bd (typeOk_qu hok) hx hy p (x + 1 * ax - x) (y + 1 * ay - y) (z + 1 * az - z)
    obtain ⟨E, hE⟩ : ∃ E, heardE (dirAt d0 d1 d2 d3 d4 d5 d6 d7) side nq gq m gt hx hy p (x + 1 * ax - x) (y + 1 * ay - y) (z + 1 * az - z) = E := ⟨_, rfl⟩
    obtain ⟨E2, hE2⟩ : ∃ E, heardE (dirAt d0 d1 d2 d3 d4 d5 d6 d7) side nq gq m gt hx hy p (x + 2 * ax - x) (y + 2 * ay - y) (z + 2 * az - z) = E := ⟨_, rfl⟩
    obtain ⟨E4, hE4⟩ : ∃ E, heardE (dirAt d0 d1 d2 d3 d4 d5 d6 d7) side nq gq m (quG gt) hx hy p (x + 1 * ax - x) (y + 1 * ay - y) (z + 1 * az - z) = E := ⟨_, rfl⟩
    rw [hE] at hEb hE12 hE14
    rw [hE2] at hEb2 hE12
    rw [hE4] at hEb4 hE14
    have hbb := fun i (hi : i < ns) => bandsE_bd (e := E) hEb.1 (by omega) hsh.1.1 hsh.1.2.2 hsh.2 hi
    have hbb2 := fun i (hi : i < ns) => bandsE_bd (e := E2) hEb2.1 (by omega) hsh.1.1 hsh.1.2.2 hsh.2 hi
    have hbb4 := fun i (hi : i < ns) => bandsE_bd (e := E4) hEb4.1 (by omega) hsh.1.1 hsh.1.2.2 hsh.2 hi
    have hsum := sum_bandsE (e := E) (f := intAt gs) hsh.1.1
    have hsum2 := sum_bandsE (e := E2) (f := intAt gs) hsh.1.1
    have hsum4 := sum_bandsE (e := E4) (f := intAt gs) hsh.1.1
    have hle12 := fun i (hi : i < ns) (h0 : 0 < i) => bands_mono (f := intAt gs) (n := ns) (i := i) hEb2.1 hE12 (hsh.1.2.2 i hi).1 h0
    obtain ⟨B, hB⟩ : ∃ B : Nat → Int, bandsE E (intAt gs) ns = B := ⟨_, rfl⟩
    obtain ⟨B2, hB2⟩ : ∃ B : Nat → Int, bandsE E2 (intAt gs) ns = B := ⟨_, rfl⟩
    obtain ⟨B4, hB4⟩ : ∃ B : Nat → Int, bandsE E4 (intAt gs) ns = B := ⟨_, rfl⟩
    rw [hB] at hbb hsum hle12
    rw [hB2] at hbb2 hsum2 hle12
    rw [hB4] at hbb4 hsum4
    have hpf := fun i (hi : i < ns) => p_far (k := i) haok hpath (by omega)
    have hpt := fun i (hi : i < ns) => p_th (p := p) (k := i) haok (by omega) hpath (by omega)
    have hpb := fun i (hi : i < ns) => p_bd (k := i) haok hpath (by omega)
    have hpb2 := fun i (hi : i < ns) => p_bd (k := i) haok hpath2 (by omega)
    have hathE := airE_th hae (p := p) (by omega)
    have hpb3 := fun i (hi : i < ns) => p_bd (k := i) (airE_ok hathE) hpath (show i < inN (thG get p) 0 4 from (show i < inN get 0 4 by omega))
    obtain ⟨PL, hPL⟩ : ∃ P : Nat → Int, ∀ i, pLo n get x y z (x + 1 * ax) (y + 1 * ay) (z + 1 * az) i = P i := ⟨_, fun _ => rfl⟩
    obtain ⟨PH, hPH⟩ : ∃ P : Nat → Int, ∀ i, pHi n get x y z (x + 1 * ax) (y + 1 * ay) (z + 1 * az) i = P i := ⟨_, fun _ => rfl⟩
    obtain ⟨PL2, hPL2⟩ : ∃ P : Nat → Int, ∀ i, pLo n get x y z (x + 2 * ax) (y + 2 * ay) (z + 2 * az) i = P i := ⟨_, fun _ => rfl⟩
    obtain ⟨PH2, hPH2⟩ : ∃ P : Nat → Int, ∀ i, pHi n get x y z (x + 2 * ax) (y + 2 * ay) (z + 2 * az) i = P i := ⟨_, fun _ => rfl⟩
    obtain ⟨PL3, hPL3⟩ : ∃ P : Nat → Int, ∀ i, pLo n (thG get p) x y z (x + 1 * ax) (y + 1 * ay) (z + 1 * az) i = P i := ⟨_, fun _ => rfl⟩
    obtain ⟨PH3, hPH3⟩ : ∃ P : Nat → Int, ∀ i, pHi n (thG get p) x y z (x + 1 * ax) (y + 1 * ay) (z + 1 * az) i = P i := ⟨_, fun _ => rfl⟩
    simp only [hPL, hPH, hPL2, hPH2, hPL3, hPH3] at hpf hpt hpb hpb2 hpb3
    have hz1 : 0 + ns = ns := Nat.zero_add _
    have hdd : decide ((ns : Int) = (ns : Int)) = true := decide_eq_true rfl
    have hcop : ∀ i, i < n → inN get i 4 ≤ 8 := fun i hi => by have := haok.same i hi; omega
    have haw : (-100000 ≤ x ∧ x ≤ 100000) ∧ (-100000 ≤ y ∧ y ≤ 100000) ∧ (-100000 ≤ z ∧ z ≤ 100000) ∧ (-100000 ≤ ax ∧ ax ≤ 100000) ∧ (-100000 ≤ ay ∧ ay ≤ 100000) ∧ -100000 ≤ az ∧ az ≤ 100000 := ⟨by omega, by omega, by omega, by omega, by omega, by omega⟩
    simp only [Proofs.Try.f3]
    simp (maxSteps := 4000000) only [go_sem, ↓op_move, ↓op_assign, ↓op_pick, ↓op_alloc, ↓op_box, ↓op_build, ↓op_buildSlice, ↓op_load, ↓op_store, ↓op_nilCheck, ↓op_bin, ↓op_un, ↓op_convert, ↓op_makeFunc, ↓op_makeSlice, ↓op_slice, ↓op_fieldAddr, ↓op_field, ↓op_indexAddr, ↓op_index, ↓op_extract, ↓op_range, ↓op_next, ↓op_call, ↓op_builtin, ↓g_tt, ↓g_ff, ↓g_tf, ↓g_ft, ↓g_tnt, ↓g_tnf, ↓g_fnt, ↓g_fnf, hp1, hp2, hp3, hp, hf, hE, hB, hE2, hB2, hPL, hPH, hPL2, hPH2, hz1, Nat.not_lt_zero, Nat.sub_zero, hns, hdd]
    refine ⟨⟨hs, hq, ht, hsl, hair, hzk⟩, haw, ⟨hs, hq, ht, hok, hair, hae, hpl, hdr, hpo, hpl2, hpath⟩, haw, ⟨hs, hq, ht, hok, hair, hae, hpl, hdr, hpo, hpl3, hpath2⟩, ⟨hair, by omega, hcop⟩, haw, ⟨hair, hae, hpath⟩, ⟨hair, by omega, hcop⟩, haw, ⟨hair, hae, hpath2⟩, ?_⟩
    refine RestT.loopI (β := Nat) [6, 19, 121, 122, 123, 124, 125, 126, 127, 128, 129, 130, 131, 132, 133, 134, 135, 136, 137, 138, 139, 140, 141, 142, 143, 144, 145, 146, 147, 148, 149, 150, 151, 152, 153, 154, 155, 156, 157, 158, 159] (fun i => [(17, .int .i64 (sumI B i)), (18, .int .i64 (sumI B2 i)), (120, .int .i64 i)]) (fun _ => _) (fun i => i ≤ ns) (fun i => ns - i) 0 (Nat.zero_le _) ?_ (HpLe.refl _) ?_
    · simp (maxSteps := 4000000) only [go_sem, ↓op_move, ↓op_assign, ↓op_pick, ↓op_alloc, ↓op_box, ↓op_build, ↓op_buildSlice, ↓op_load, ↓op_store, ↓op_nilCheck, ↓op_bin, ↓op_un, ↓op_convert, ↓op_makeFunc, ↓op_makeSlice, ↓op_slice, ↓op_fieldAddr, ↓op_field, ↓op_indexAddr, ↓op_index, ↓op_extract, ↓op_range, ↓op_next, ↓op_call, ↓op_builtin, ↓g_tt, ↓g_ff, ↓g_tf, ↓g_ft, ↓g_tnt, ↓g_tnf, ↓g_fnt, ↓g_fnf]
      try simp [sumI]
    · intro ck i hck hi
      generalize hq0 : exC _ _ _ _ _ = gg
      by_cases hlt : i < ns
      · have hd : decide ((i : Int) < (ns : Int)) = true := by simp; omega
        have s1 := sumI_bd (f := B) (n := i + 1) fun j hj => hbb j (by omega)
        have s2 := sumI_bd (f := B2) (n := i + 1) fun j hj => hbb2 j (by omega)
        simp only [sumI] at s1 s2
        have hns8 := hsh.1.2.1
        have h1 := hpf i hlt
        have c1 : decide (PL i < PL2 i) = false := decide_eq_false (by omega)
        have c2 : decide (PH i < PH2 i) = false := decide_eq_false (by omega)
        rw [← hq0]
        clear hq0
        simp (maxSteps := 4000000) only [go_sem, ↓op_move, ↓op_assign, ↓op_pick, ↓op_alloc, ↓op_box, ↓op_build, ↓op_buildSlice, ↓op_load, ↓op_store, ↓op_nilCheck, ↓op_bin, ↓op_un, ↓op_convert, ↓op_makeFunc, ↓op_makeSlice, ↓op_slice, ↓op_fieldAddr, ↓op_field, ↓op_indexAddr, ↓op_index, ↓op_extract, ↓op_range, ↓op_next, ↓op_call, ↓op_builtin, ↓g_tt, ↓g_ff, ↓g_tf, ↓g_ft, ↓g_tnt, ↓g_tnf, ↓g_fnt, ↓g_fnf, hd, hp1, hp2, hp3, hp, c1, c2]
        have hio : 0 ≤ (i : Int) ∧ (i : Int) < (ns : Int) := ⟨by omega, by omega⟩
        exact ⟨hio, inK_of (by omega) (by omega), hio, inK_of (by omega) (by omega), hio, hio, hio, hio, inK_of (by omega) (by omega), by omega, i + 1, hlt, by omega, ⟨rfl, rfl, rfl⟩, HpLe.refl _⟩
      · have hd : decide ((i : Int) < (ns : Int)) = false := by simp; omega
        obtain rfl : ns = i := by omega
        have c1 : decide (E < E2) = false := decide_eq_false (by omega)
        rw [← hq0]
        clear hq0
        simp (maxSteps := 4000000) only [go_sem, ↓op_move, ↓op_assign, ↓op_pick, ↓op_alloc, ↓op_box, ↓op_build, ↓op_buildSlice, ↓op_load, ↓op_store, ↓op_nilCheck, ↓op_bin, ↓op_un, ↓op_convert, ↓op_makeFunc, ↓op_makeSlice, ↓op_slice, ↓op_fieldAddr, ↓op_field, ↓op_indexAddr, ↓op_index, ↓op_extract, ↓op_range, ↓op_next, ↓op_call, ↓op_builtin, ↓g_tt, ↓g_ff, ↓g_tf, ↓g_ft, ↓g_tnt, ↓g_tnf, ↓g_fnt, ↓g_fnf, hd, hp1, hp2, hp3, hp, hsum, hsum2, c1]
        refine RestT.loopI (β := Nat) [6, 163, 164, 165, 166, 167, 168, 169, 170, 171, 172, 173, 174, 175, 176, 177, 178, 179, 180, 181, 182, 183, 184, 185, 186, 187, 188, 189, 190, 191, 192, 193, 194, 195, 196, 197, 198, 199, 200, 201, 202, 203] (fun i => [(20, .int .i64 (i + 1 : Nat))]) (fun _ => _) (fun k => k < ns) (fun k => ns - k) 0 (by omega) ?_ (HpLe.refl _) ?_
        · simp (maxSteps := 4000000) only [go_sem, ↓op_move, ↓op_assign, ↓op_pick, ↓op_alloc, ↓op_box, ↓op_build, ↓op_buildSlice, ↓op_load, ↓op_store, ↓op_nilCheck, ↓op_bin, ↓op_un, ↓op_convert, ↓op_makeFunc, ↓op_makeSlice, ↓op_slice, ↓op_fieldAddr, ↓op_field, ↓op_indexAddr, ↓op_index, ↓op_extract, ↓op_range, ↓op_next, ↓op_call, ↓op_builtin, ↓g_tt, ↓g_ff, ↓g_tf, ↓g_ft, ↓g_tnt, ↓g_tnf, ↓g_fnt, ↓g_fnf]
          try simp
        · intro ck2 k hck2 hk
          generalize hq0 : exC _ _ _ _ _ = gg
          by_cases hlt : k + 1 < ns
          · have hd : decide (((k + 1 : Nat) : Int) < (ns : Int)) = true := by simp; omega
            have h1 := hpf (k + 1) hlt
            have h2 := hpb (k + 1) hlt
            have h3 := hpb2 (k + 1) hlt
            have h4 := hle12 (k + 1) hlt (by omega)
            have h5 := arr_mono (hbb2 (k + 1) hlt).1 h4 h3.1 h1.1
            have h6 := arr_mono (hbb2 (k + 1) hlt).1 h4 (by omega) h1.2
            have c1 : decide (B (k + 1) < B2 (k + 1)) = false := decide_eq_false (by omega)
            have c2 : decide (arrLo (B (k + 1)) (PL (k + 1)) < arrLo (B2 (k + 1)) (PL2 (k + 1))) = false := decide_eq_false (by omega)
            have c3 : decide (arrHi (B (k + 1)) (PH (k + 1)) < arrHi (B2 (k + 1)) (PH2 (k + 1))) = false := decide_eq_false (by omega)
            rw [← hq0]
            clear hq0
            simp (maxSteps := 4000000) only [go_sem, ↓op_move, ↓op_assign, ↓op_pick, ↓op_alloc, ↓op_box, ↓op_build, ↓op_buildSlice, ↓op_load, ↓op_store, ↓op_nilCheck, ↓op_bin, ↓op_un, ↓op_convert, ↓op_makeFunc, ↓op_makeSlice, ↓op_slice, ↓op_fieldAddr, ↓op_field, ↓op_indexAddr, ↓op_index, ↓op_extract, ↓op_range, ↓op_next, ↓op_call, ↓op_builtin, ↓g_tt, ↓g_ff, ↓g_tf, ↓g_ft, ↓g_tnt, ↓g_tnf, ↓g_fnt, ↓g_fnf, hd, hp1, hp2, hp3, hp, c1, c2, c3]
            have hio : 0 ≤ ((k + 1 : Nat) : Int) ∧ ((k + 1 : Nat) : Int) < (ns : Int) := ⟨by omega, by omega⟩
            exact ⟨hio, hio, hio, hio, hio, hio, inK_of (by omega) (by omega), by omega, k + 1, by omega, by omega, by congr 1, HpLe.refl _⟩
          · have hd : decide (((k + 1 : Nat) : Int) < (ns : Int)) = false := by simp; omega
            rw [← hq0]
            clear hq0
            simp (maxSteps := 4000000) only [go_sem, ↓op_move, ↓op_assign, ↓op_pick, ↓op_alloc, ↓op_box, ↓op_build, ↓op_buildSlice, ↓op_load, ↓op_store, ↓op_nilCheck, ↓op_bin, ↓op_un, ↓op_convert, ↓op_makeFunc, ↓op_makeSlice, ↓op_slice, ↓op_fieldAddr, ↓op_field, ↓op_indexAddr, ↓op_index, ↓op_extract, ↓op_range, ↓op_next, ↓op_call, ↓op_builtin, ↓g_tt, ↓g_ff, ↓g_tf, ↓g_ft, ↓g_tnt, ↓g_tnf, ↓g_fnt, ↓g_fnf, hd, hp1, hp2, hp3, hp]
            refine .inl fun hX => airIn hX hair (by omega) hcop (fun l _ => rfl) fun L ck3 b hN hbi hL1 hL2 => ?_
            obtain ⟨bi, nu, H⟩ := b
            have hbi : bi = n := hbi
            obtain rfl : n = bi := hbi.symm
            have hL : H L = some (.arr n 5 (ownRow get nu)) := hN.outer
            have hnu : ∀ j, j < n → H (nu j) = some (.arr (inN get j 4) 2 (airR get j)) := hN.inner
            have hne : ∀ j, j < n → nu j ≠ L := hN.ne
            have hne2 : ∀ j, j < n → L ≠ nu j := fun j hj e => hne j hj e.symm
            have hinj : ∀ j k, j < n → k < n → nu j = nu k → j = k := hN.inj
            simp (maxSteps := 4000000) only [go_sem, ↓op_move, ↓op_assign, ↓op_pick, ↓op_alloc, ↓op_box, ↓op_build, ↓op_buildSlice, ↓op_load, ↓op_store, ↓op_nilCheck, ↓op_bin, ↓op_un, ↓op_convert, ↓op_makeFunc, ↓op_makeSlice, ↓op_slice, ↓op_fieldAddr, ↓op_field, ↓op_indexAddr, ↓op_index, ↓op_extract, ↓op_range, ↓op_next, ↓op_call, ↓op_builtin, ↓g_tt, ↓g_ff, ↓g_tf, ↓g_ft, ↓g_tnt, ↓g_tnf, ↓g_fnt, ↓g_fnf, hp1, hp2, hp3, hp, hL, Nat.zero_add]
            refine RestT.loopK (β := Nat × Heap) [22, 23, 24, 209, 210, 211, 212, 213, 214, 215, 216, 217, 218, 219, 220, 221, 222, 223, 224, 225, 226, 227, 228, 229, 230, 231, 232, 233, 234, 235, 236, 237, 238, 239, 240, 241, 242, 243, 244, 245, 246, 247, 248, 249, 250, 251, 252, 253, 254, 255, 256, 257, 258, 259, 260, 261, 262, 263, 264, 265, 266] (fun b => [(208, .int .i64 b.1)]) (fun b => b.2)
              (fun c b => b.1 ≤ n ∧ b.2 L = some (.arr n 5 (ownRow get nu)) ∧ ∀ j, j < n → b.2 (nu j) = some (.arr (inN get j 4) 2 (if j < b.1 then thR get p j else airR get j))) (fun b => n - b.1) (0, H)
              ⟨Nat.zero_le _, hL, fun j hj => by rw [if_neg (Nat.not_lt_zero _)]; exact hnu j hj⟩ ?_ (HpLe.refl H) ?_
            · simp (maxSteps := 4000000) only [go_sem, ↓op_move, ↓op_assign, ↓op_pick, ↓op_alloc, ↓op_box, ↓op_build, ↓op_buildSlice, ↓op_load, ↓op_store, ↓op_nilCheck, ↓op_bin, ↓op_un, ↓op_convert, ↓op_makeFunc, ↓op_makeSlice, ↓op_slice, ↓op_fieldAddr, ↓op_field, ↓op_indexAddr, ↓op_index, ↓op_extract, ↓op_range, ↓op_next, ↓op_call, ↓op_builtin, ↓g_tt, ↓g_ff, ↓g_tf, ↓g_ft, ↓g_tnt, ↓g_tnf, ↓g_fnt, ↓g_fnf]
            · intro ck4 b hck4 hI
              generalize hq0 : exC _ _ _ _ _ = gg
              obtain ⟨i, H⟩ := b
              obtain ⟨hi, hL, hnu⟩ := hI
              have hi : i ≤ n := hi
              have hL : H L = some (.arr n 5 (ownRow get nu)) := hL
              have hnu : ∀ j, j < n → H (nu j) = some (.arr (inN get j 4) 2 (if j < i then thR get p j else airR get j)) := hnu
              by_cases hlt : i < n
              · have hd : decide ((i : Int) < (n : Int)) = true := by simp; omega
                have hrow : ownRow get nu i = [.int .i64 (cell get i 0), .int .i64 (cell get i 1), .int .i64 (cell get i 2), .int .i64 (cell get i 3), .msl (nu i) 0 (inN get i 4)] := rfl
                have hni : H (nu i) = some (.arr (inN get i 4) 2 (airR get i)) := by rw [hnu i hlt, if_neg (Nat.lt_irrefl _)]
                rw [← hq0]
                clear hq0
                simp (maxSteps := 4000000) only [go_sem, ↓op_move, ↓op_assign, ↓op_pick, ↓op_alloc, ↓op_box, ↓op_build, ↓op_buildSlice, ↓op_load, ↓op_store, ↓op_nilCheck, ↓op_bin, ↓op_un, ↓op_convert, ↓op_makeFunc, ↓op_makeSlice, ↓op_slice, ↓op_fieldAddr, ↓op_field, ↓op_indexAddr, ↓op_index, ↓op_extract, ↓op_range, ↓op_next, ↓op_call, ↓op_builtin, ↓g_tt, ↓g_ff, ↓g_tf, ↓g_ft, ↓g_tnt, ↓g_tnf, ↓g_fnt, ↓g_fnf, hd, hp1, hp2, hp3, hp, hL, hrow, hni, Nat.zero_add]
                have hio : 0 ≤ (i : Int) ∧ (i : Int) < (n : Int) := ⟨by omega, by omega⟩
                have hbi8 := hcop i hlt
                refine ⟨hio, ?_⟩
                refine RestT.loopI (β := Nat × Heap) [23, 24, 218, 219, 220, 221, 222, 223, 224, 225, 226, 227, 228, 229, 230, 231, 232, 233, 234, 235, 236, 237, 238, 239, 240, 241, 242, 243, 244, 245, 246, 247, 248, 249, 250, 251, 252, 253, 254, 255, 256, 257, 258, 259, 260, 261, 262, 263, 264, 265] (fun b => [(217, .int .i64 b.1)]) (fun b => b.2)
                  (fun b => b.1 ≤ inN get i 4 ∧ b.2 L = some (.arr n 5 (ownRow get nu)) ∧ b.2 (nu i) = some (.arr (inN get i 4) 2 (mixR (thR get p i) (airR get i) b.1)) ∧
                    ∀ j, j < n → j ≠ i → b.2 (nu j) = some (.arr (inN get j 4) 2 (if j < i then thR get p j else airR get j))) (fun b => inN get i 4 - b.1) (0, H)
                  ⟨Nat.zero_le _, hL, by rw [mixR_zero]; exact hni, fun j hj _ => hnu j hj⟩ ?_ (HpLe.refl H) ?_
                · simp (maxSteps := 4000000) only [go_sem, ↓op_move, ↓op_assign, ↓op_pick, ↓op_alloc, ↓op_box, ↓op_build, ↓op_buildSlice, ↓op_load, ↓op_store, ↓op_nilCheck, ↓op_bin, ↓op_un, ↓op_convert, ↓op_makeFunc, ↓op_makeSlice, ↓op_slice, ↓op_fieldAddr, ↓op_field, ↓op_indexAddr, ↓op_index, ↓op_extract, ↓op_range, ↓op_next, ↓op_call, ↓op_builtin, ↓g_tt, ↓g_ff, ↓g_tf, ↓g_ft, ↓g_tnt, ↓g_tnf, ↓g_fnt, ↓g_fnf]
                · intro ck5 b hck5 hI
                  generalize hq0 : exC _ _ _ _ _ = gg
                  obtain ⟨k, H⟩ := b
                  obtain ⟨hk, hL, hni, hnu⟩ := hI
                  have hk : k ≤ inN get i 4 := hk
                  have hL : H L = some (.arr n 5 (ownRow get nu)) := hL
                  have hni : H (nu i) = some (.arr (inN get i 4) 2 (mixR (thR get p i) (airR get i) k)) := hni
                  have hnu : ∀ j, j < n → j ≠ i → H (nu j) = some (.arr (inN get j 4) 2 (if j < i then thR get p j else airR get j)) := hnu
                  by_cases hltk : k < inN get i 4
                  · have hd : decide ((k : Int) < (inN get i 4 : Int)) = true := by simp; omega
                    have hmix : mixR (thR get p i) (airR get i) k k = [.int .i64 (cell (inG get i 4) k 0), .int .i64 (cell (inG get i 4) k 1)] := mixR_at
                    rw [← hq0]
                    clear hq0
                    simp (maxSteps := 4000000) only [go_sem, ↓op_move, ↓op_assign, ↓op_pick, ↓op_alloc, ↓op_box, ↓op_build, ↓op_buildSlice, ↓op_load, ↓op_store, ↓op_nilCheck, ↓op_bin, ↓op_un, ↓op_convert, ↓op_makeFunc, ↓op_makeSlice, ↓op_slice, ↓op_fieldAddr, ↓op_field, ↓op_indexAddr, ↓op_index, ↓op_extract, ↓op_range, ↓op_next, ↓op_call, ↓op_builtin, ↓g_tt, ↓g_ff, ↓g_tf, ↓g_ft, ↓g_tnt, ↓g_tnf, ↓g_fnt, ↓g_fnf, hd, hp1, hp2, hp3, hp, hL, hrow, hni, hmix, hne2 i hlt, Nat.zero_add]
                    have hik : 0 ≤ (k : Int) ∧ (k : Int) < (inN get i 4 : Int) := ⟨by omega, by omega⟩
                    have hs0 := haok.same i hlt
                    have hby := byT_bd (p := p) haok (by omega) hlt (b := k) (by omega)
                    have hps := haok.pass i hlt k (by omega)
                    unfold byT at hby
                    refine ⟨inK_of (by omega) (by omega), inK_of (by omega) (by omega), inK_of (by omega) (by omega), hio, hik, inK_of (by omega) (by omega), by omega, hio, hik, inK_of (by omega) (by omega), hik, hio, hik, inK_of (by omega) (by omega), hik, inK_of (by omega) (by omega), by omega,
                      (k + 1, updH H (nu i) (.arr (inN get i 4) 2 (mixR (thR get p i) (airR get i) (k + 1)))), ⟨hltk, ?_, updH_same _ _ _, fun j hj hji => ?_⟩, by show inN get i 4 - (k + 1) < inN get i 4 - k; omega, rfl, HpLe.again (objLe_arr fun c hc => ?_)⟩
                    · show updH _ _ _ L = _
                      rw [updH_ne (hne2 i hlt)]; exact hL
                    · show updH _ _ _ (nu j) = _
                      rw [updH_ne (fun e => hji (hinj j i hj hlt e))]; exact hnu j hj hji
                    · rw [mixR_succ]
                      by_cases e : c = k
                      · rw [if_pos e, if_pos e]; rfl
                      · rw [if_neg e, if_neg e, if_neg e]
                  · have hd : decide ((k : Int) < (inN get i 4 : Int)) = false := by simp; omega
                    obtain rfl : k = inN get i 4 := by omega
                    rw [← hq0]
                    clear hq0
                    simp (maxSteps := 4000000) only [go_sem, ↓op_move, ↓op_assign, ↓op_pick, ↓op_alloc, ↓op_box, ↓op_build, ↓op_buildSlice, ↓op_load, ↓op_store, ↓op_nilCheck, ↓op_bin, ↓op_un, ↓op_convert, ↓op_makeFunc, ↓op_makeSlice, ↓op_slice, ↓op_fieldAddr, ↓op_field, ↓op_indexAddr, ↓op_index, ↓op_extract, ↓op_range, ↓op_next, ↓op_call, ↓op_builtin, ↓g_tt, ↓g_ff, ↓g_tf, ↓g_ft, ↓g_tnt, ↓g_tnf, ↓g_fnt, ↓g_fnf, hd, hp1, hp2, hp3, hp, hL, Nat.zero_add]
                    refine ⟨inK_of (by omega) (by omega), by omega, (i + 1, updH H (nu i) (.arr (inN get i 4) 2 (thR get p i))), ⟨hlt, ?_, fun j hj => ?_⟩, by show n - (i + 1) < n - i; omega, rfl, HpLe.upd1 hni (objLe_arr fun c hc => (mixR_all hc).symm)⟩
                    · show updH _ _ _ L = _
                      rw [updH_ne (hne2 i hlt)]; exact hL
                    · show updH _ _ _ (nu j) = some (.arr (inN get j 4) 2 (if j < i + 1 then thR get p j else airR get j))
                      by_cases e : j = i
                      · subst e; rw [updH_same, if_pos (Nat.lt_succ_self j)]
                      · rw [updH_ne (fun q => e (hinj j i hj hlt q))]; refine Eq.trans (hnu j hj e) ?_
                        by_cases h : j < i
                        · rw [if_pos h, if_pos (by omega)]
                        · rw [if_neg h, if_neg (by omega)]
              · have hd : decide ((i : Int) < (n : Int)) = false := by simp; omega
                obtain rfl : n = i := by omega
                rw [← hq0]
                clear hq0
                simp (maxSteps := 4000000) only [go_sem, ↓op_move, ↓op_assign, ↓op_pick, ↓op_alloc, ↓op_box, ↓op_build, ↓op_buildSlice, ↓op_load, ↓op_store, ↓op_nilCheck, ↓op_bin, ↓op_un, ↓op_convert, ↓op_makeFunc, ↓op_makeSlice, ↓op_slice, ↓op_fieldAddr, ↓op_field, ↓op_indexAddr, ↓op_index, ↓op_extract, ↓op_range, ↓op_next, ↓op_call, ↓op_builtin, ↓g_tt, ↓g_ff, ↓g_tf, ↓g_ft, ↓g_tnt, ↓g_tnf, ↓g_fnt, ↓g_fnf, hd, hp1, hp2, hp3, hp, hL, Nat.zero_add]
                refine ⟨_, Ents.freeze (frzLe.set (d := 21) frzLe.refl rfl (frz_air hL fun j hj => by rw [hnu j hj, if_pos hj])), ?_⟩
                have hpT := (isAir_th (p := p) hair).pu
                simp (maxSteps := 4000000) only [go_sem, ↓op_move, ↓op_assign, ↓op_pick, ↓op_alloc, ↓op_box, ↓op_build, ↓op_buildSlice, ↓op_load, ↓op_store, ↓op_nilCheck, ↓op_bin, ↓op_un, ↓op_convert, ↓op_makeFunc, ↓op_makeSlice, ↓op_slice, ↓op_fieldAddr, ↓op_field, ↓op_indexAddr, ↓op_index, ↓op_extract, ↓op_range, ↓op_next, ↓op_call, ↓op_builtin, ↓g_tt, ↓g_ff, ↓g_tf, ↓g_ft, ↓g_tnt, ↓g_tnf, ↓g_fnt, ↓g_fnf, hp1, hp2, hp3, hp, hpT, hE, hB, hPL, hPH, hPL3, hPH3, hz1, Nat.not_lt_zero, Nat.sub_zero, hns, hdd]
                refine ⟨haw, ⟨by omega, by omega⟩, ⟨isAir_th hair, hathE, hpath, isInts_fn _ (by omega), hns.symm, hbb⟩, ?_⟩
                refine RestT.loopI (β := Nat) [6, 27, 28, 293, 294, 295, 296, 297, 298, 299, 300, 301, 302, 303, 304, 305, 306, 307, 308, 309, 310, 311, 312, 313, 314, 315] (fun i => [(292, .int .i64 i)]) (fun _ => fun _ => none) (fun i => i ≤ ns) (fun i => ns - i) 0 (Nat.zero_le _) ?_ HpLe.none ?_
                · simp (maxSteps := 4000000) only [go_sem, ↓op_move, ↓op_assign, ↓op_pick, ↓op_alloc, ↓op_box, ↓op_build, ↓op_buildSlice, ↓op_load, ↓op_store, ↓op_nilCheck, ↓op_bin, ↓op_un, ↓op_convert, ↓op_makeFunc, ↓op_makeSlice, ↓op_slice, ↓op_fieldAddr, ↓op_field, ↓op_indexAddr, ↓op_index, ↓op_extract, ↓op_range, ↓op_next, ↓op_call, ↓op_builtin, ↓g_tt, ↓g_ff, ↓g_tf, ↓g_ft, ↓g_tnt, ↓g_tnf, ↓g_fnt, ↓g_fnf]
                · intro ck6 k hck6 hk
                  have hk0 : ¬ ck6 = 0 := by omega
                  generalize hq0 : exC _ _ _ _ _ = gg
                  by_cases hlt : k < ns
                  · have hd : decide ((k : Int) < (ns : Int)) = true := by simp; omega
                    have h1 := hpt k hlt
                    have h2 := hpb k hlt
                    have h3 := hpb3 k hlt
                    have h5 := arr_mono (hbb k hlt).1 (Int.le_refl _) h3.1 h1.1
                    have h6 := arr_mono (hbb k hlt).1 (Int.le_refl _) (by omega) h1.2
                    have c2 : decide (arrLo (B k) (PL k) < arrLo (B k) (PL3 k)) = false := decide_eq_false (by omega)
                    have c3 : decide (arrHi (B k) (PH k) < arrHi (B k) (PH3 k)) = false := decide_eq_false (by omega)
                    rw [← hq0]
                    clear hq0
                    simp (maxSteps := 4000000) only [go_sem, ↓op_move, ↓op_assign, ↓op_pick, ↓op_alloc, ↓op_box, ↓op_build, ↓op_buildSlice, ↓op_load, ↓op_store, ↓op_nilCheck, ↓op_bin, ↓op_un, ↓op_convert, ↓op_makeFunc, ↓op_makeSlice, ↓op_slice, ↓op_fieldAddr, ↓op_field, ↓op_indexAddr, ↓op_index, ↓op_extract, ↓op_range, ↓op_next, ↓op_call, ↓op_builtin, ↓g_tt, ↓g_ff, ↓g_tf, ↓g_ft, ↓g_tnt, ↓g_tnf, ↓g_fnt, ↓g_fnf, hd, hp1, hp2, hp3, hp, c2, c3, hk0]
                    have hik : 0 ≤ (k : Int) ∧ (k : Int) < (ns : Int) := ⟨by omega, by omega⟩
                    exact ⟨hik, hik, hik, inK_of (by omega) (by omega), by omega, k + 1, hlt, by omega, rfl, HpLe.none⟩
                  · have hd : decide ((k : Int) < (ns : Int)) = false := by simp; omega
                    rw [← hq0]
                    clear hq0
                    simp (maxSteps := 4000000) only [go_sem, ↓op_move, ↓op_assign, ↓op_pick, ↓op_alloc, ↓op_box, ↓op_build, ↓op_buildSlice, ↓op_load, ↓op_store, ↓op_nilCheck, ↓op_bin, ↓op_un, ↓op_convert, ↓op_makeFunc, ↓op_makeSlice, ↓op_slice, ↓op_fieldAddr, ↓op_field, ↓op_indexAddr, ↓op_index, ↓op_extract, ↓op_range, ↓op_next, ↓op_call, ↓op_builtin, ↓g_tt, ↓g_ff, ↓g_tf, ↓g_ft, ↓g_tnt, ↓g_tnf, ↓g_fnt, ↓g_fnf, hd, hp1, hp2, hp3, hp]
                    have hsq := squaresE_zero.1 hok.squares
                    have hcn := hok.cnt
                    have hes := fun i (hi : i < m) => (setOk hok hi).2.2.1
                    refine .inl fun hX => ownIn hX hs hq ht (by omega) (by omega) hcn.2 (fun i hi => by have := hes i hi; omega) (fun l _ => rfl) fun L ck7 b hN hbi hL1 hL2 => ?_
                    obtain ⟨bi, nu, H⟩ := b
                    have hbi : bi = m := hbi
                    obtain rfl : m = bi := hbi.symm
                    have hL : H L = some (.arr m 2 (ownSet gt nu)) := hN.outer
                    have hnu : ∀ j, j < m → H (nu j) = some (.arr (inN gt j 1) 1 (setR gt j)) := hN.inner
                    have hne : ∀ j, j < m → nu j ≠ L := hN.ne
                    have hne2 : ∀ j, j < m → L ≠ nu j := fun j hj e => hne j hj e.symm
                    have hinj : ∀ j k, j < m → k < m → nu j = nu k → j = k := hN.inj
                    have hfr : ∀ d, H (ck7, d) = none := fun d => hN.free _ (Nat.le_refl _)
                    have hLb : ∀ d, L ≠ (ck7, d) := fun d e => by rw [e] at hL2; exact Nat.lt_irrefl _ hL2
                    have hnb : ∀ j d, j < m → nu j ≠ (ck7, d) := fun j d hj e => by have := hN.hi j hj; have h2 : (nu j).1 < ck7 := this; rw [e] at h2; exact Nat.lt_irrefl _ h2
                    simp (maxSteps := 4000000) only [go_sem, ↓op_move, ↓op_assign, ↓op_pick, ↓op_alloc, ↓op_box, ↓op_build, ↓op_buildSlice, ↓op_load, ↓op_store, ↓op_nilCheck, ↓op_bin, ↓op_un, ↓op_convert, ↓op_makeFunc, ↓op_makeSlice, ↓op_slice, ↓op_fieldAddr, ↓op_field, ↓op_indexAddr, ↓op_index, ↓op_extract, ↓op_range, ↓op_next, ↓op_call, ↓op_builtin, ↓g_tt, ↓g_ff, ↓g_tf, ↓g_ft, ↓g_tnt, ↓g_tnf, ↓g_fnt, ↓g_fnf, hp1, hp2, hp3, hp, hL, hfr, hLb, Nat.zero_add]
                    refine RestT.loopK (β := Nat × Heap) [30, 31, 322, 323, 324, 325, 326, 327, 328, 329, 330, 331, 332, 333, 334, 335, 336, 337, 338, 339, 340, 341, 342, 343, 344, 345, 346] (fun b => [(321, .int .i64 b.1)]) (fun b => b.2)
                      (fun c b => b.1 ≤ m ∧ b.2 (ck7, 29) = some (.cells [.str s, .sl ns 1 gs, .int .i64 d0, .int .i64 d1, .int .i64 d2, .int .i64 d3, .int .i64 d4, .int .i64 d5, .int .i64 d6, .int .i64 d7, .int .i64 side, .sl nq 1 gq, .msl L 0 m]) ∧ b.2 L = some (.arr m 2 (ownSet gt nu)) ∧ ∀ j, j < m → b.2 (nu j) = some (.arr (inN gt j 1) 1 (if j < b.1 then quR gt j else setR gt j))) (fun b => m - b.1)
                      (0, updH H (ck7, 29) (.cells [.str s, .sl ns 1 gs, .int .i64 d0, .int .i64 d1, .int .i64 d2, .int .i64 d3, .int .i64 d4, .int .i64 d5, .int .i64 d6, .int .i64 d7, .int .i64 side, .sl nq 1 gq, .msl L 0 m]))
                      ⟨Nat.zero_le _, updH_same _ _ _, (updH_ne (hLb 29)).trans hL, fun j hj => by rw [if_neg (Nat.not_lt_zero _)]; exact (updH_ne (hnb j 29 hj)).trans (hnu j hj)⟩ ?_ (HpLe.again (ObjLe.refl _)) ?_
                    · simp (maxSteps := 4000000) only [go_sem, ↓op_move, ↓op_assign, ↓op_pick, ↓op_alloc, ↓op_box, ↓op_build, ↓op_buildSlice, ↓op_load, ↓op_store, ↓op_nilCheck, ↓op_bin, ↓op_un, ↓op_convert, ↓op_makeFunc, ↓op_makeSlice, ↓op_slice, ↓op_fieldAddr, ↓op_field, ↓op_indexAddr, ↓op_index, ↓op_extract, ↓op_range, ↓op_next, ↓op_call, ↓op_builtin, ↓g_tt, ↓g_ff, ↓g_tf, ↓g_ft, ↓g_tnt, ↓g_tnf, ↓g_fnt, ↓g_fnf]
                    · intro ck8 b hck8 hI
                      generalize hq0 : exC _ _ _ _ _ = gg
                      obtain ⟨i, H⟩ := b
                      obtain ⟨hi, hbx, hL, hnu⟩ := hI
                      have hi : i ≤ m := hi
                      have hbx : H (ck7, 29) = some (.cells [.str s, .sl ns 1 gs, .int .i64 d0, .int .i64 d1, .int .i64 d2, .int .i64 d3, .int .i64 d4, .int .i64 d5, .int .i64 d6, .int .i64 d7, .int .i64 side, .sl nq 1 gq, .msl L 0 m]) := hbx
                      have hL : H L = some (.arr m 2 (ownSet gt nu)) := hL
                      have hnu : ∀ j, j < m → H (nu j) = some (.arr (inN gt j 1) 1 (if j < i then quR gt j else setR gt j)) := hnu
                      by_cases hlt : i < m
                      · have hd : decide ((i : Int) < (m : Int)) = true := by simp; omega
                        have hrow : ownSet gt nu i = [.int .i64 (cell gt i 0), .msl (nu i) 0 (inN gt i 1)] := rfl
                        have hni : H (nu i) = some (.arr (inN gt i 1) 1 (setR gt i)) := by rw [hnu i hlt, if_neg (Nat.lt_irrefl _)]
                        rw [← hq0]
                        clear hq0
                        simp (maxSteps := 4000000) only [go_sem, ↓op_move, ↓op_assign, ↓op_pick, ↓op_alloc, ↓op_box, ↓op_build, ↓op_buildSlice, ↓op_load, ↓op_store, ↓op_nilCheck, ↓op_bin, ↓op_un, ↓op_convert, ↓op_makeFunc, ↓op_makeSlice, ↓op_slice, ↓op_fieldAddr, ↓op_field, ↓op_indexAddr, ↓op_index, ↓op_extract, ↓op_range, ↓op_next, ↓op_call, ↓op_builtin, ↓g_tt, ↓g_ff, ↓g_tf, ↓g_ft, ↓g_tnt, ↓g_tnf, ↓g_fnt, ↓g_fnf, hd, hp1, hp2, hp3, hp, hbx, hL, hrow, hni, Nat.zero_add]
                        have hio : 0 ≤ (i : Int) ∧ (i : Int) < (m : Int) := ⟨by omega, by omega⟩
                        refine ⟨hio, ?_⟩
                        refine RestT.loopI (β := Nat × Heap) [31, 332, 333, 334, 335, 336, 337, 338, 339, 340, 341, 342, 343, 344, 345] (fun b => [(331, .int .i64 b.1)]) (fun b => b.2)
                          (fun b => b.1 ≤ inN gt i 1 ∧ b.2 (ck7, 29) = some (.cells [.str s, .sl ns 1 gs, .int .i64 d0, .int .i64 d1, .int .i64 d2, .int .i64 d3, .int .i64 d4, .int .i64 d5, .int .i64 d6, .int .i64 d7, .int .i64 side, .sl nq 1 gq, .msl L 0 m]) ∧ b.2 L = some (.arr m 2 (ownSet gt nu)) ∧ b.2 (nu i) = some (.arr (inN gt i 1) 1 (mixR (quR gt i) (setR gt i) b.1)) ∧
                            ∀ j, j < m → j ≠ i → b.2 (nu j) = some (.arr (inN gt j 1) 1 (if j < i then quR gt j else setR gt j))) (fun b => inN gt i 1 - b.1) (0, H)
                          ⟨Nat.zero_le _, hbx, hL, by rw [mixR_zero]; exact hni, fun j hj _ => hnu j hj⟩ ?_ (HpLe.refl H) ?_
                        · simp (maxSteps := 4000000) only [go_sem, ↓op_move, ↓op_assign, ↓op_pick, ↓op_alloc, ↓op_box, ↓op_build, ↓op_buildSlice, ↓op_load, ↓op_store, ↓op_nilCheck, ↓op_bin, ↓op_un, ↓op_convert, ↓op_makeFunc, ↓op_makeSlice, ↓op_slice, ↓op_fieldAddr, ↓op_field, ↓op_indexAddr, ↓op_index, ↓op_extract, ↓op_range, ↓op_next, ↓op_call, ↓op_builtin, ↓g_tt, ↓g_ff, ↓g_tf, ↓g_ft, ↓g_tnt, ↓g_tnf, ↓g_fnt, ↓g_fnf]
                        · intro ck9 b hck9 hI
                          generalize hq0 : exC _ _ _ _ _ = gg
                          obtain ⟨k, H⟩ := b
                          obtain ⟨hk, hbx, hL, hni, hnu⟩ := hI
                          have hk : k ≤ inN gt i 1 := hk
                          have hbx : H (ck7, 29) = some (.cells [.str s, .sl ns 1 gs, .int .i64 d0, .int .i64 d1, .int .i64 d2, .int .i64 d3, .int .i64 d4, .int .i64 d5, .int .i64 d6, .int .i64 d7, .int .i64 side, .sl nq 1 gq, .msl L 0 m]) := hbx
                          have hL : H L = some (.arr m 2 (ownSet gt nu)) := hL
                          have hni : H (nu i) = some (.arr (inN gt i 1) 1 (mixR (quR gt i) (setR gt i) k)) := hni
                          have hnu : ∀ j, j < m → j ≠ i → H (nu j) = some (.arr (inN gt j 1) 1 (if j < i then quR gt j else setR gt j)) := hnu
                          have hnq := hes i hlt
                          by_cases hltk : k < inN gt i 1
                          · have hd : decide ((k : Int) < (inN gt i 1 : Int)) = true := by simp; omega
                            have hmix : mixR (quR gt i) (setR gt i) k k = [.int .i64 (intAt (inG gt i 1) k)] := mixR_at
                            rw [← hq0]
                            clear hq0
                            simp (maxSteps := 4000000) only [go_sem, ↓op_move, ↓op_assign, ↓op_pick, ↓op_alloc, ↓op_box, ↓op_build, ↓op_buildSlice, ↓op_load, ↓op_store, ↓op_nilCheck, ↓op_bin, ↓op_un, ↓op_convert, ↓op_makeFunc, ↓op_makeSlice, ↓op_slice, ↓op_fieldAddr, ↓op_field, ↓op_indexAddr, ↓op_index, ↓op_extract, ↓op_range, ↓op_next, ↓op_call, ↓op_builtin, ↓g_tt, ↓g_ff, ↓g_tf, ↓g_ft, ↓g_tnt, ↓g_tnf, ↓g_fnt, ↓g_fnf, hd, hp1, hp2, hp3, hp, hbx, hL, hrow, hni, hmix, hne2 i hlt, Nat.zero_add]
                            have hik : 0 ≤ (k : Int) ∧ (k : Int) < (inN gt i 1 : Int) := ⟨by omega, by omega⟩
                            have hen := (setOk hok hlt).2.2.2.1 k (by omega)
                            have htd : (intAt (inG gt i 1) k).tdiv 2 = intAt (inG gt i 1) k / 2 := Int.tdiv_eq_ediv_of_nonneg hen.1
                            refine ⟨hio, hik, by rw [htd]; exact inK_of (by omega) (by omega), hik, inK_of (by omega) (by omega), by omega,
                              (k + 1, updH H (nu i) (.arr (inN gt i 1) 1 (mixR (quR gt i) (setR gt i) (k + 1)))), ⟨hltk, ?_, ?_, updH_same _ _ _, fun j hj hji => ?_⟩, by show inN gt i 1 - (k + 1) < inN gt i 1 - k; omega, rfl, HpLe.same (objLe_arr fun c hc => ?_)⟩
                            · show updH _ _ _ (ck7, 29) = _
                              rw [updH_ne (fun e => hnb i 29 hlt e.symm)]; exact hbx
                            · show updH _ _ _ L = _
                              rw [updH_ne (hne2 i hlt)]; exact hL
                            · show updH _ _ _ (nu j) = _
                              rw [updH_ne (fun e => hji (hinj j i hj hlt e))]; exact hnu j hj hji
                            · rw [mixR_succ]
                              by_cases e : c = k
                              · rw [if_pos e, if_pos e]; rfl
                              · rw [if_neg e, if_neg e]
                          · have hd : decide ((k : Int) < (inN gt i 1 : Int)) = false := by simp; omega
                            obtain rfl : k = inN gt i 1 := by omega
                            rw [← hq0]
                            clear hq0
                            simp (maxSteps := 4000000) only [go_sem, ↓op_move, ↓op_assign, ↓op_pick, ↓op_alloc, ↓op_box, ↓op_build, ↓op_buildSlice, ↓op_load, ↓op_store, ↓op_nilCheck, ↓op_bin, ↓op_un, ↓op_convert, ↓op_makeFunc, ↓op_makeSlice, ↓op_slice, ↓op_fieldAddr, ↓op_field, ↓op_indexAddr, ↓op_index, ↓op_extract, ↓op_range, ↓op_next, ↓op_call, ↓op_builtin, ↓g_tt, ↓g_ff, ↓g_tf, ↓g_ft, ↓g_tnt, ↓g_tnf, ↓g_fnt, ↓g_fnf, hd, hp1, hp2, hp3, hp, hbx, hL, Nat.zero_add]
                            refine ⟨inK_of (by omega) (by omega), by omega, (i + 1, updH H (nu i) (.arr (inN gt i 1) 1 (quR gt i))), ⟨hlt, ?_, ?_, fun j hj => ?_⟩, by show m - (i + 1) < m - i; omega, rfl, HpLe.upd1 hni (objLe_arr fun c hc => (mixR_all hc).symm)⟩
                            · show updH _ _ _ (ck7, 29) = _
                              rw [updH_ne (fun e => hnb i 29 hlt e.symm)]; exact hbx
                            · show updH _ _ _ L = _
                              rw [updH_ne (hne2 i hlt)]; exact hL
                            · show updH _ _ _ (nu j) = some (.arr (inN gt j 1) 1 (if j < i + 1 then quR gt j else setR gt j))
                              by_cases e : j = i
                              · subst e; rw [updH_same, if_pos (Nat.lt_succ_self j)]
                              · rw [updH_ne (fun q => e (hinj j i hj hlt q))]; refine Eq.trans (hnu j hj e) ?_
                                by_cases h : j < i
                                · rw [if_pos h, if_pos (by omega)]
                                · rw [if_neg h, if_neg (by omega)]
                      · have hd : decide ((i : Int) < (m : Int)) = false := by simp; omega
                        obtain rfl : m = i := by omega
                        rw [← hq0]
                        clear hq0
                        simp (maxSteps := 4000000) only [go_sem, ↓op_move, ↓op_assign, ↓op_pick, ↓op_alloc, ↓op_box, ↓op_build, ↓op_buildSlice, ↓op_load, ↓op_store, ↓op_nilCheck, ↓op_bin, ↓op_un, ↓op_convert, ↓op_makeFunc, ↓op_makeSlice, ↓op_slice, ↓op_fieldAddr, ↓op_field, ↓op_indexAddr, ↓op_index, ↓op_extract, ↓op_range, ↓op_next, ↓op_call, ↓op_builtin, ↓g_tt, ↓g_ff, ↓g_tf, ↓g_ft, ↓g_tnt, ↓g_tnf, ↓g_fnt, ↓g_fnf, hd, hp1, hp2, hp3, hp, hbx, hL, Nat.zero_add]
                        have hcsp : ∀ v ∈ [V.str s, V.sl ns 1 gs, .int .i64 d0, .int .i64 d1, .int .i64 d2, .int .i64 d3, .int .i64 d4, .int .i64 d5, .int .i64 d6, .int .i64 d7, .int .i64 side, .sl nq 1 gq], Pu v := fun v hv => by
                          simp only [List.mem_cons, List.not_mem_nil, or_false] at hv
                          rcases hv with rfl | rfl | rfl | rfl | rfl | rfl | rfl | rfl | rfl | rfl | rfl | rfl <;> first | exact .str _ | exact .int _ _ | exact hp1 | exact hp2
                        have hfz : VEnt (frz 5 H (.ptr (ck7, 29) 0)) (.cptr [.str s, .sl ns 1 gs, .int .i64 d0, .int .i64 d1, .int .i64 d2, .int .i64 d3, .int .i64 d4, .int .i64 d5, .int .i64 d6, .int .i64 d7, .int .i64 side, .sl nq 1 gq, .sl m 2 (quG gt)]) := frz_quiet (cs := [.str s, .sl ns 1 gs, .int .i64 d0, .int .i64 d1, .int .i64 d2, .int .i64 d3, .int .i64 d4, .int .i64 d5, .int .i64 d6, .int .i64 d7, .int .i64 side, .sl nq 1 gq]) hbx hcsp hL fun j hj => by rw [hnu j hj, if_pos hj]
                        refine ⟨_, Ents.freeze (frzLe.set (d := 29) frzLe.refl rfl hfz), ?_⟩
                        have hpQ := (isSet_qu ht).pu
                        simp (maxSteps := 4000000) only [go_sem, ↓op_move, ↓op_assign, ↓op_pick, ↓op_alloc, ↓op_box, ↓op_build, ↓op_buildSlice, ↓op_load, ↓op_store, ↓op_nilCheck, ↓op_bin, ↓op_un, ↓op_convert, ↓op_makeFunc, ↓op_makeSlice, ↓op_slice, ↓op_fieldAddr, ↓op_field, ↓op_indexAddr, ↓op_index, ↓op_extract, ↓op_range, ↓op_next, ↓op_call, ↓op_builtin, ↓g_tt, ↓g_ff, ↓g_tf, ↓g_ft, ↓g_tnt, ↓g_tnf, ↓g_fnt, ↓g_fnf, hp1, hp2, hp3, hp, hpQ, hE4, hB4, hPL, hPH, hz1, Nat.not_lt_zero, Nat.sub_zero, hns, hdd]
                        refine ⟨haw, ⟨hs, hq, isSet_qu ht, typeOk_qu hok, hair, hae, hpl, hdr, hpo, hpl2, hpath⟩, ?_⟩
                        refine RestT.loopI (β := Nat) [37, 363, 364, 365, 366, 367, 368, 369] (fun i => [(35, .int .i64 (sumI B4 i)), (362, .int .i64 i)]) (fun _ => fun _ => none) (fun i => i ≤ ns) (fun i => ns - i) 0 (Nat.zero_le _) ?_ HpLe.none ?_
                        · simp (maxSteps := 4000000) only [go_sem, ↓op_move, ↓op_assign, ↓op_pick, ↓op_alloc, ↓op_box, ↓op_build, ↓op_buildSlice, ↓op_load, ↓op_store, ↓op_nilCheck, ↓op_bin, ↓op_un, ↓op_convert, ↓op_makeFunc, ↓op_makeSlice, ↓op_slice, ↓op_fieldAddr, ↓op_field, ↓op_indexAddr, ↓op_index, ↓op_extract, ↓op_range, ↓op_next, ↓op_call, ↓op_builtin, ↓g_tt, ↓g_ff, ↓g_tf, ↓g_ft, ↓g_tnt, ↓g_tnf, ↓g_fnt, ↓g_fnf]
                          try simp [sumI]
                        · intro ck10 k hck10 hk
                          generalize hq0 : exC _ _ _ _ _ = gg
                          by_cases hlt : k < ns
                          · have hd : decide ((k : Int) < (ns : Int)) = true := by simp; omega
                            have s1 := sumI_bd (f := B4) (n := k + 1) fun j hj => hbb4 j (by omega)
                            simp only [sumI] at s1
                            have hns8 := hsh.1.2.1
                            rw [← hq0]
                            clear hq0
                            simp (maxSteps := 4000000) only [go_sem, ↓op_move, ↓op_assign, ↓op_pick, ↓op_alloc, ↓op_box, ↓op_build, ↓op_buildSlice, ↓op_load, ↓op_store, ↓op_nilCheck, ↓op_bin, ↓op_un, ↓op_convert, ↓op_makeFunc, ↓op_makeSlice, ↓op_slice, ↓op_fieldAddr, ↓op_field, ↓op_indexAddr, ↓op_index, ↓op_extract, ↓op_range, ↓op_next, ↓op_call, ↓op_builtin, ↓g_tt, ↓g_ff, ↓g_tf, ↓g_ft, ↓g_tnt, ↓g_tnf, ↓g_fnt, ↓g_fnf, hd, hp1, hp2, hp3, hp]
                            exact ⟨⟨by omega, by omega⟩, inK_of (by omega) (by omega), inK_of (by omega) (by omega), by omega, k + 1, hlt, by omega, ⟨rfl, rfl⟩, HpLe.none⟩
                          · have hd : decide ((k : Int) < (ns : Int)) = false := by simp; omega
                            obtain rfl : ns = k := by omega
                            have c1 : decide (E4 ≤ E) = true := decide_eq_true hE14
                            rw [← hq0]
                            clear hq0
                            simp (maxSteps := 4000000) only [go_sem, ↓op_move, ↓op_assign, ↓op_pick, ↓op_alloc, ↓op_box, ↓op_build, ↓op_buildSlice, ↓op_load, ↓op_store, ↓op_nilCheck, ↓op_bin, ↓op_un, ↓op_convert, ↓op_makeFunc, ↓op_makeSlice, ↓op_slice, ↓op_fieldAddr, ↓op_field, ↓op_indexAddr, ↓op_index, ↓op_extract, ↓op_range, ↓op_next, ↓op_call, ↓op_builtin, ↓g_tt, ↓g_ff, ↓g_tf, ↓g_ft, ↓g_tnt, ↓g_tnf, ↓g_fnt, ↓g_fnf, hd, hp1, hp2, hp3, hp, hsum4, c1]
                            exact VEnt.of_eq rfl
end Go.Fly.Try
