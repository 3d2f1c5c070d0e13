/- The verifier: what is heard and what arrives of it. -/
import Derived.Test.YtlfciglmhomdpaaSBP
import Derived.Test.YtlfciglmhomdpaaSBO
import Derived.Test.YtlfciglmhomdpaaSBJ
set_option linter.unusedSimpArgs false
set_option linter.unusedVariables false
set_option maxRecDepth 100000
set_option maxHeartbeats 1000000
namespace Go.Fly.Try
open Go

theorem tChime_ok : Holds Proofs.Try.prog G0 6 chimeC := by
  refine Holds.of_exC D6 Proofs.Try.func6 rfl foll (by kernel_rfl) (tab [(9, airCopyC), (10, arrived2C), (17, heard2C), (18, bandedC), (19, ownedC), (iceKey 4, iceC), (iceKey 6, iceC), (iceKey 7, iceC)]) (tab_ok ⟨tAir_ok, aArrived_ok, sHeard2_ok, sBanded_ok, tType_ok, ice_holds, ice_holds, ice_holds, trivial⟩) G0_ok fun k0 rl args hpu hpre => ?_
  unfold chimeC at hpre ⊢
  split at hpre
  rotate_left
  · exact hpre.elim
  rename_i s ns zs gs d0 d1 d2 d3 d4 d5 d6 d7 side nq zq gq m zt gt n sz get x y z hx hy p u v w
  obtain ⟨rfl, rfl, rfl, hs, hq, ht, hok, rfl, hair, hae, hns, hpl, hdr, hpo, hpl2, hpath⟩ := hpre
  have hp1 := hs.pu
  have hp2 := hq.pu
  have hp3 := ht.pu
  have hp := hair.pu
  have haok := airE_ok hae
  have hsh := sharesE_zero.1 hok.shares
  have hsq := squaresE_zero.1 hok.squares
  have hcn := hok.cnt
  have hacn := haok.cnt
  have hab := haok.bands
  have hes := fun i (hi : i < m) => (setOk hok hi).2.2.1
  obtain ⟨E, hE⟩ : ∃ E, heardE (dirAt d0 d1 d2 d3 d4 d5 d6 d7) side nq gq m gt hx hy p (u - x) (v - y) (w - z) = E := ⟨_, rfl⟩
  have hEb := heardE_bd hok hx hy p (u - x) (v - y) (w - z)
  rw [hE] at hEb
  have hbb := fun i (hi : i < ns) => bandsE_bd (e := E) hEb.1 (by omega) hsh.1.1 hsh.1.2.2 hsh.2 hi
  have hsum := sum_bandsE (e := E) (f := intAt gs) hsh.1.1
  have hz1 : 0 + ns = ns := Nat.zero_add _
  simp only [Proofs.Try.f6]
  simp (maxSteps := 4000000) only [go_sem, ↓op_move, ↓op_assign, ↓op_pick, ↓op_alloc, ↓op_box, ↓op_build, ↓op_buildSlice, ↓op_load, ↓op_store, ↓op_nilCheck, ↓op_bin, ↓op_un, ↓op_convert, ↓op_makeFunc, ↓op_makeSlice, ↓op_slice, ↓op_fieldAddr, ↓op_field, ↓op_indexAddr, ↓op_index, ↓op_extract, ↓op_range, ↓op_next, ↓op_call, ↓op_builtin, ↓g_tt, ↓g_ff, ↓g_tf, ↓g_ft, ↓g_tnt, ↓g_tnf, ↓g_fnt, ↓g_fnf, hp1, hp2, hp3, hp, hE, hz1, Nat.not_lt_zero, Nat.sub_zero]
  refine ⟨⟨hs, hq, ht, hsh.1.2.1, hsq.1.2.1, hcn.2, fun i hi => by have := hes i hi; omega⟩, ⟨hs, hq, ht, hok, hpl, hdr, hpo, hpl2⟩, ⟨hs, hq, ht, hsh.1.2.1, hsq.1.2.1, hcn.2, fun i hi => by have := hes i hi; omega⟩, ⟨hs, hq, ht, hok, by omega, by omega⟩, ⟨hair, by omega, fun i hi => by have := haok.same i hi; omega⟩, ⟨by omega, by omega⟩, ⟨hair, hae, hpath, isInts_fn _ (by omega), hns.symm, fun i hi => hbb i hi⟩, ?_⟩
  refine RestT.loopI (β := Nat) [19, 65, 66, 67, 68, 69, 70, 71] (fun i => [(17, .int .i64 (sumI (bandsE E (intAt gs) ns) i)), (64, .int .i64 i)]) (fun _ => _) (fun i => i ≤ ns) (fun i => ns - i) 0 (Nat.zero_le _) ?_ (HpLe.refl _) ?_
  · simp (maxSteps := 4000000) only [go_sem, ↓op_move, ↓op_assign, ↓op_pick, ↓op_alloc, ↓op_box, ↓op_build, ↓op_buildSlice, ↓op_load, ↓op_store, ↓op_nilCheck, ↓op_bin, ↓op_un, ↓op_convert, ↓op_makeFunc, ↓op_makeSlice, ↓op_slice, ↓op_fieldAddr, ↓op_field, ↓op_indexAddr, ↓op_index, ↓op_extract, ↓op_range, ↓op_next, ↓op_call, ↓op_builtin, ↓g_tt, ↓g_ff, ↓g_tf, ↓g_ft, ↓g_tnt, ↓g_tnf, ↓g_fnt, ↓g_fnf]
    try simp [sumI]
  · intro ck i hck hi
    generalize hq0 : exC _ _ _ _ _ = gg
    by_cases hlt : i < ns
    · have hd : decide ((i : Int) < (ns : Int)) = true := by simp; omega
      have hs1 := sumI_bd (f := bandsE E (intAt gs) ns) (n := i + 1) fun j hj => hbb j (by omega)
      have hsh8 := hsh.1.2.1
      simp only [sumI] at hs1
      rw [← hq0]
      clear hq0
      simp (maxSteps := 4000000) only [go_sem, ↓op_move, ↓op_assign, ↓op_pick, ↓op_alloc, ↓op_box, ↓op_build, ↓op_buildSlice, ↓op_load, ↓op_store, ↓op_nilCheck, ↓op_bin, ↓op_un, ↓op_convert, ↓op_makeFunc, ↓op_makeSlice, ↓op_slice, ↓op_fieldAddr, ↓op_field, ↓op_indexAddr, ↓op_index, ↓op_extract, ↓op_range, ↓op_next, ↓op_call, ↓op_builtin, ↓g_tt, ↓g_ff, ↓g_tf, ↓g_ft, ↓g_tnt, ↓g_tnf, ↓g_fnt, ↓g_fnf, hd, hp1, hp2, hp3, hp]
      exact ⟨⟨by omega, by omega⟩, inK_of (by omega) (by omega), inK_of (by omega) (by omega), by omega, i + 1, hlt, by omega, ⟨rfl, rfl⟩, HpLe.refl _⟩
    · have hd : decide ((i : Int) < (ns : Int)) = false := by simp; omega
      obtain rfl : i = ns := by omega
      have hse : decide (sumI (bandsE E (intAt gs) i) i = E) = true := decide_eq_true hsum
      rw [← hq0]
      clear hq0
      simp (maxSteps := 4000000) only [go_sem, ↓op_move, ↓op_assign, ↓op_pick, ↓op_alloc, ↓op_box, ↓op_build, ↓op_buildSlice, ↓op_load, ↓op_store, ↓op_nilCheck, ↓op_bin, ↓op_un, ↓op_convert, ↓op_makeFunc, ↓op_makeSlice, ↓op_slice, ↓op_fieldAddr, ↓op_field, ↓op_indexAddr, ↓op_index, ↓op_extract, ↓op_range, ↓op_next, ↓op_call, ↓op_builtin, ↓g_tt, ↓g_ff, ↓g_tf, ↓g_ft, ↓g_tnt, ↓g_tnf, ↓g_fnt, ↓g_fnf, hd, hp1, hp2, hp3, hp, hsum]
      exact VEnt.of_eq rfl
end Go.Fly.Try
