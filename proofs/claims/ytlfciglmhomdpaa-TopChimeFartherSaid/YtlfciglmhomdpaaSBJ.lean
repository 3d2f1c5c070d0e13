/- What is heard: the sources' functions. -/
import Derived.Test.YtlfciglmhomdpaaSBI
import Derived.Test.YtlfciglmhomdpaaSBE
import Derived.Test.YtlfciglmhomdpaaAN
set_option linter.unusedSimpArgs false
set_option linter.unusedVariables false
set_option maxRecDepth 100000
set_option maxHeartbeats 1000000
namespace Go.Fly.Try
open Go

theorem sEm_ok : Holds Proofs.Try.prog G0 72 emC := by
  refine Holds.of_exC D72 Proofs.Try.func72 rfl foll (by kernel_rfl) (tab [(84, idxC 85), (85, geqC), (86, betweenC), (iceKey 3, iceC), (iceKey 4, iceC)]) (tab_ok ⟨sIdx_ok, sGeq_ok, sBetween_ok, ice_holds, ice_holds, trivial⟩) G0_ok fun k0 rl args hpu hpre => ?_
  unfold emC at hpre ⊢
  split at hpre
  rotate_left
  · exact hpre.elim
  rename_i s ns zs gs d0 d1 d2 d3 d4 d5 d6 d7 side nq zq gq m zt gt power sq
  obtain ⟨rfl, rfl, rfl, hs, hq, ht, hok, hpw⟩ := hpre
  have hp1 := hs.pu
  have hp2 := hq.pu
  have hp3 := ht.pu
  have hqn := (squaresE_zero.1 hok.squares).1
  simp only [Proofs.Try.f72]
  simp (maxSteps := 4000000) only [go_sem, ↓op_move, ↓op_assign, ↓op_pick, ↓op_alloc, ↓op_box, ↓op_build, ↓op_buildSlice, ↓op_load, ↓op_store, ↓op_nilCheck, ↓op_bin, ↓op_un, ↓op_convert, ↓op_makeFunc, ↓op_makeSlice, ↓op_slice, ↓op_fieldAddr, ↓op_field, ↓op_indexAddr, ↓op_index, ↓op_extract, ↓op_range, ↓op_next, ↓op_call, ↓op_builtin, ↓g_tt, ↓g_ff, ↓g_tf, ↓g_ft, ↓g_tnt, ↓g_tnf, ↓g_fnt, ↓g_fnf, hp1, hp2, hp3]
  refine RestT.loopI (β := Nat) [8, 9, 17, 18, 19, 20, 21, 22, 23, 24, 25] (fun i => [(7, .int .i64 (reachN (intAt gq) sq i)), (16, .int .i64 i)]) (fun _ => fun _ => none) (fun i => i ≤ nq) (fun i => nq - i) 0 (Nat.zero_le _) ?_ HpLe.none ?_
  · simp (maxSteps := 4000000) only [go_sem, ↓op_move, ↓op_assign, ↓op_pick, ↓op_alloc, ↓op_box, ↓op_build, ↓op_buildSlice, ↓op_load, ↓op_store, ↓op_nilCheck, ↓op_bin, ↓op_un, ↓op_convert, ↓op_makeFunc, ↓op_makeSlice, ↓op_slice, ↓op_fieldAddr, ↓op_field, ↓op_indexAddr, ↓op_index, ↓op_extract, ↓op_range, ↓op_next, ↓op_call, ↓op_builtin, ↓g_tt, ↓g_ff, ↓g_tf, ↓g_ft, ↓g_tnt, ↓g_tnf, ↓g_fnt, ↓g_fnf]
    try simp [reachN]
  · intro ck i hck hi
    generalize hq0 : exC _ _ _ _ _ = gg
    by_cases hlt : i < nq
    · have hd : decide ((i : Int) < (nq : Int)) = true := by simp; omega
      have hg := hq.2 i hlt
      rw [← hq0]
      clear hq0
      simp (maxSteps := 4000000) only [go_sem, ↓op_move, ↓op_assign, ↓op_pick, ↓op_alloc, ↓op_box, ↓op_build, ↓op_buildSlice, ↓op_load, ↓op_store, ↓op_nilCheck, ↓op_bin, ↓op_un, ↓op_convert, ↓op_makeFunc, ↓op_makeSlice, ↓op_slice, ↓op_fieldAddr, ↓op_field, ↓op_indexAddr, ↓op_index, ↓op_extract, ↓op_range, ↓op_next, ↓op_call, ↓op_builtin, ↓g_tt, ↓g_ff, ↓g_tf, ↓g_ft, ↓g_tnt, ↓g_tnf, ↓g_fnt, ↓g_fnf, hd, hg, hp1, hp2, hp3]
      refine ⟨by omega, fun h => ⟨inK_of (by omega) (by omega), i + 1, hlt, by omega, ⟨?_, rfl⟩, HpLe.none⟩, fun h => ⟨inK_of (by omega) (by omega), i + 1, hlt, by omega, ⟨?_, rfl⟩, HpLe.none⟩⟩
      · simp only [reachN, if_pos h]
      · simp only [reachN, if_neg h]
    · have hd : decide ((i : Int) < (nq : Int)) = false := by simp; omega
      obtain rfl : i = nq := by omega
      have hmm := hok.cnt
      have hm := ht.1
      obtain ⟨r, hr⟩ : ∃ r, reachN (intAt gq) sq i = r := ⟨_, rfl⟩
      have hrl : r < i := by rw [← hr]; exact reachN_lt hqn.1
      have hi9 := hq.1
      have hset := fun j (hj : j < m) => setOk hok hj
      rcases idxF_spec (p := fun j => decide (power ≤ cell gt j 0)) (k := m) (i := 0) with e | ⟨j, q1, q2, q3, q4, q5⟩
      · have f1 : Int.toNat ((m : Int) - 1) = m - 1 := by omega
        obtain ⟨hg, hin⟩ := ht.2 (m - 1) (by omega)
        have hgr := hin.2 r (by rw [(hset (m - 1) (by omega)).2.2.1]; exact hrl)
        have hln := (hset (m - 1) (by omega)).2.2.1
        have hp4 := hin.pu
        rw [← hq0]
        clear hq0
        simp (maxSteps := 4000000) only [go_sem, ↓op_move, ↓op_assign, ↓op_pick, ↓op_alloc, ↓op_box, ↓op_build, ↓op_buildSlice, ↓op_load, ↓op_store, ↓op_nilCheck, ↓op_bin, ↓op_un, ↓op_convert, ↓op_makeFunc, ↓op_makeSlice, ↓op_slice, ↓op_fieldAddr, ↓op_field, ↓op_indexAddr, ↓op_index, ↓op_extract, ↓op_range, ↓op_next, ↓op_call, ↓op_builtin, ↓g_tt, ↓g_ff, ↓g_tf, ↓g_ft, ↓g_tnt, ↓g_tnf, ↓g_fnt, ↓g_fnf, hd, hp1, hp2, hp3, e, f1, hg, hgr, hr, hp4, hln]
        exact ⟨ht, inK_of (by omega) (by omega), by omega, by omega, VEnt.of_eq (by simp only [emE]; rw [e, if_pos (by decide), hr])⟩
      · obtain ⟨hg, hin⟩ := ht.2 j (by omega)
        have hgr := hin.2 r (by rw [(hset j (by omega)).2.2.1]; exact hrl)
        have hln := (hset j (by omega)).2.2.1
        have hp4 := hin.pu
        have g0 : decide ((j : Int) < 0) = false := decide_eq_false (by omega)
        rcases Nat.eq_zero_or_pos j with z | z
        · subst z
          rw [← hq0]
          clear hq0
          simp (maxSteps := 4000000) only [go_sem, ↓op_move, ↓op_assign, ↓op_pick, ↓op_alloc, ↓op_box, ↓op_build, ↓op_buildSlice, ↓op_load, ↓op_store, ↓op_nilCheck, ↓op_bin, ↓op_un, ↓op_convert, ↓op_makeFunc, ↓op_makeSlice, ↓op_slice, ↓op_fieldAddr, ↓op_field, ↓op_indexAddr, ↓op_index, ↓op_extract, ↓op_range, ↓op_next, ↓op_call, ↓op_builtin, ↓g_tt, ↓g_ff, ↓g_tf, ↓g_ft, ↓g_tnt, ↓g_tnf, ↓g_fnt, ↓g_fnf, hd, hp1, hp2, hp3, q3, hg, hgr, hr, hp4, hln]
          exact ⟨ht, by omega, by omega, VEnt.of_eq (by simp only [emE]; rw [q3, hr, if_neg (by decide), if_pos (.inl rfl)]; rfl)⟩
        · have f1 : Int.toNat ((j : Int) - 1) = j - 1 := by omega
          obtain ⟨hg2, hin2⟩ := ht.2 (j - 1) (by omega)
          have hgr2 := hin2.2 r (by rw [(hset (j - 1) (by omega)).2.2.1]; exact hrl)
          have hln2 := (hset (j - 1) (by omega)).2.2.1
          have hp5 := hin2.pu
          have g1 : decide ((j : Int) = 0) = false := by simp; omega
          rw [← hq0]
          clear hq0
          simp (maxSteps := 4000000) only [go_sem, ↓op_move, ↓op_assign, ↓op_pick, ↓op_alloc, ↓op_box, ↓op_build, ↓op_buildSlice, ↓op_load, ↓op_store, ↓op_nilCheck, ↓op_bin, ↓op_un, ↓op_convert, ↓op_makeFunc, ↓op_makeSlice, ↓op_slice, ↓op_fieldAddr, ↓op_field, ↓op_indexAddr, ↓op_index, ↓op_extract, ↓op_range, ↓op_next, ↓op_call, ↓op_builtin, ↓g_tt, ↓g_ff, ↓g_tf, ↓g_ft, ↓g_tnt, ↓g_tnf, ↓g_fnt, ↓g_fnf, hd, hp1, hp2, hp3, q3, g0, g1, f1, hg, hgr, hr, hp4, hln, hg2, hgr2, hp5, hln2]
          have ha := (hset (j - 1) (by omega)).2.2.2.1 r hrl
          have hb := (hset j (by omega)).2.2.2.1 r hrl
          have hpj := (hset j (by omega)).2.1 (by omega)
          have hpa := (hset j (by omega)).1
          have hpb := (hset (j - 1) (by omega)).1
          have hp5j := q5 (j - 1) (by omega) (by omega)
          simp only [decide_eq_false_iff_not, decide_eq_true_eq] at hp5j q4
          refine ⟨ht, by omega, fun h => ⟨by omega, by omega, VEnt.of_eq ?_⟩, fun h => ⟨inK_of (by omega) (by omega), by omega, by omega, by omega, by omega, inK_of (by omega) (by omega), inK_of (by omega) (by omega), ⟨by omega, by omega, by omega, by omega, ha.1, ha.2, hb.1, hb.2⟩, VEnt.of_eq ?_⟩⟩
          · simp only [emE]
            rw [q3, hr, if_neg (by omega), if_pos (.inr h)]; rfl
          · simp only [emE]
            rw [q3, hr, if_neg (by omega), if_neg (by
              intro q
              rcases q with q | q
              · omega
              · exact h q)]; rfl

theorem sHeard_ok : Holds Proofs.Try.prog G0 43 heardC := by
  refine Holds.of_exC D43 Proofs.Try.func43 rfl foll (by kernel_rfl) (tab [(69, lessC), (70, squares2C), (71, sectorC), (72, emC), (iceKey 3, iceC), (iceKey 4, iceC), (iceKey 5, iceC)]) (tab_ok ⟨sLess_ok, sSquares_ok, sSector_ok, sEm_ok, ice_holds, ice_holds, ice_holds, trivial⟩) G0_ok fun k0 rl args hpu hpre => ?_
  unfold heardC at hpre ⊢
  split at hpre
  rotate_left
  · exact hpre.elim
  rename_i s ns zs gs d0 d1 d2 d3 d4 d5 d6 d7 side nq zq gq m zt gt x y z hx hy p u v w
  obtain ⟨rfl, rfl, rfl, hs, hq, ht, hok, ⟨hx1, hy1, hz1⟩, ⟨hh1, hh2⟩, hp0, hu1, hv1, hw1⟩ := hpre
  have hp1 := hs.pu
  have hp2 := hq.pu
  have hp3 := ht.pu
  have hsec := sectorE_bd hx hy (u - x) (v - y)
  obtain ⟨k, hk⟩ : ∃ k : Nat, sectorE hx hy (u - x) (v - y) = k := ⟨(sectorE hx hy (u - x) (v - y)).toNat, by omega⟩
  have hk8 : k < 8 := by omega
  simp only [Proofs.Try.f43]
  simp (maxSteps := 4000000) only [go_sem, ↓op_move, ↓op_assign, ↓op_pick, ↓op_alloc, ↓op_box, ↓op_build, ↓op_buildSlice, ↓op_load, ↓op_store, ↓op_nilCheck, ↓op_bin, ↓op_un, ↓op_convert, ↓op_makeFunc, ↓op_makeSlice, ↓op_slice, ↓op_fieldAddr, ↓op_field, ↓op_indexAddr, ↓op_index, ↓op_extract, ↓op_range, ↓op_next, ↓op_call, ↓op_builtin, ↓g_tt, ↓g_ff, ↓g_tf, ↓g_ft, ↓g_tnt, ↓g_tnf, ↓g_fnt, ↓g_fnf, hp1, hp2, hp3, hk, Nat.mul_one, dirAt_dropT hk8]
  have e1 := mul_abs_le (a := u - x) (b := u - x) (A := 200000) (B := 200000) (by omega) (by omega) (by omega) (by omega)
  have e2 := mul_abs_le (a := v - y) (b := v - y) (A := 200000) (B := 200000) (by omega) (by omega) (by omega) (by omega)
  have e3 := mul_abs_le (a := w - z) (b := w - z) (A := 20000) (B := 20000) (by omega) (by omega) (by omega) (by omega)
  have hem := emE_bd hok p ((u - x) * (u - x) + (v - y) * (v - y) + (w - z) * (w - z))
  have hd := hok.dir k hk8
  have hd0 := hok.dir 0 (by decide)
  have hsd := hok.sideOk
  have hval : heardE (dirAt d0 d1 d2 d3 d4 d5 d6 d7) side nq gq m gt hx hy p (u - x) (v - y) (w - z) =
    (if 4 * ((w - z) * (w - z)) < (u - x) * (u - x) + (v - y) * (v - y) then emE nq gq m gt p ((u - x) * (u - x) + (v - y) * (v - y) + (w - z) * (w - z)) * dirAt d0 d1 d2 d3 d4 d5 d6 d7 (if (u - x) * (u - x) + (v - y) * (v - y) = 0 ∧ (w - z) * (w - z) = 0 then 0 else (k : Int)).toNat * side / 1000000
    else emE nq gq m gt p ((u - x) * (u - x) + (v - y) * (v - y) + (w - z) * (w - z)) * dirAt d0 d1 d2 d3 d4 d5 d6 d7 (if (u - x) * (u - x) + (v - y) * (v - y) = 0 ∧ (w - z) * (w - z) = 0 then 0 else (k : Int)).toNat / 1000) := by
    simp only [heardE, hk]
  generalize heardE (dirAt d0 d1 d2 d3 d4 d5 d6 d7) side nq gq m gt hx hy p (u - x) (v - y) (w - z) = res at hval ⊢
  generalize (u - x) * (u - x) = a1 at *
  generalize (v - y) * (v - y) = a2 at *
  generalize (w - z) * (w - z) = a3 at *
  generalize emE nq gq m gt p (a1 + a2 + a3) = em at *
  have hb1 : ∀ i, i < 8 → 0 ≤ em * dirAt d0 d1 d2 d3 d4 d5 d6 d7 i ∧ em * dirAt d0 d1 d2 d3 d4 d5 d6 d7 i ≤ 100000000 * 2000 := fun i hi => mul_le_of hem.1 hem.2 (hok.dir i hi).1 (hok.dir i hi).2
  have hb2 : ∀ i, i < 8 → 0 ≤ em * dirAt d0 d1 d2 d3 d4 d5 d6 d7 i * side ∧ em * dirAt d0 d1 d2 d3 d4 d5 d6 d7 i * side ≤ 100000000 * 2000 * 1000 := fun i hi => mul_le_of (hb1 i hi).1 (hb1 i hi).2 hsd.1 hsd.2
  have hk1 := hb1 k hk8
  have hk2 := hb2 k hk8
  have hz1 := hb1 0 (by decide)
  have hz2 := hb2 0 (by decide)
  simp only [show dirAt d0 d1 d2 d3 d4 d5 d6 d7 0 = d0 from rfl] at hz1 hz2
  refine ⟨⟨by omega, by omega, by omega, by omega, by omega, by omega⟩, ⟨by omega, by omega, by omega⟩, fun h => ⟨⟨by omega, by omega, by omega, by omega⟩, inK_of (by omega) (by omega), ⟨hs, hq, ht, hok, by omega, by omega⟩, by omega, inK_of (by omega) (by omega), inK_of (by omega) (by omega),
    fun h2 => ⟨inK_of (by omega) (by omega), ?_⟩, fun h2 => ?_⟩, fun h => ⟨inK_of (by omega) (by omega), ⟨hs, hq, ht, hok, by omega, by omega⟩, inK_of (by omega) (by omega), inK_of (by omega) (by omega),
    fun h2 => ⟨inK_of (by omega) (by omega), ?_⟩, fun h2 => ?_⟩⟩
  · have hne : ¬ (a1 + a2 = 0 ∧ a3 = 0) := by
      intro q
      simp [q.1, q.2] at h
    rw [hval, if_pos h2, if_neg hne, Int.toNat_natCast, Int.tdiv_eq_ediv_of_nonneg hk2.1]
    exact ⟨inK_of (by omega) (by omega), VEnt.of_eq rfl⟩
  · have hne : ¬ (a1 + a2 = 0 ∧ a3 = 0) := by
      intro q
      simp [q.1, q.2] at h
    rw [hval, if_neg h2, if_neg hne, Int.toNat_natCast, Int.tdiv_eq_ediv_of_nonneg hk1.1]
    exact ⟨inK_of (by omega) (by omega), VEnt.of_eq rfl⟩
  · have hne : a1 + a2 = 0 ∧ a3 = 0 := by simpa using h
    rw [hval, if_pos h2, if_pos hne, Int.tdiv_eq_ediv_of_nonneg hz2.1]
    exact ⟨inK_of (by omega) (by omega), VEnt.of_eq rfl⟩
  · have hne : a1 + a2 = 0 ∧ a3 = 0 := by simpa using h
    rw [hval, if_neg h2, if_pos hne, Int.tdiv_eq_ediv_of_nonneg hz1.1]
    exact ⟨inK_of (by omega) (by omega), VEnt.of_eq rfl⟩

theorem dirs_row {d0 d1 d2 d3 d4 d5 d6 d7 : Int} {l : List V} : ∀ {k : Nat}, k < 8 → rowAt (V.int .i64 d0 :: V.int .i64 d1 :: V.int .i64 d2 :: V.int .i64 d3 :: V.int .i64 d4 :: V.int .i64 d5 :: V.int .i64 d6 :: V.int .i64 d7 :: l) 1 k = [.int .i64 (dirAt d0 d1 d2 d3 d4 d5 d6 d7 k)]
  | 0, _ | 1, _ | 2, _ | 3, _ | 4, _ | 5, _ | 6, _ | 7, _ => rfl
  | n + 8, h => by omega
def lastP (gt : Nat → List V) (i : Nat) : Int := if i = 0 then 0 else cell gt (i - 1) 0
def lastG (gt : Nat → List V) (i : Nat) : Nat → List V := if i = 0 then fun _ => [.int .i64 0] else inG gt (i - 1) 1
def lastV (gt : Nat → List V) (i k : Nat) : Int := if i = 0 then 0 else intAt (inG gt (i - 1) 1) k

theorem sSettings_ok : Holds Proofs.Try.prog G0 68 typeOkC := by
  refine Holds.of_exC D68 Proofs.Try.func68 rfl foll (by kernel_rfl) (tab [(38, firstC), (63, whenC), (65, countedC), (66, rangedC), (67, withinC), (iceKey 1, iceC)]) (tab_ok ⟨sFirst_ok, sWhen_ok, sCounted_ok, sRanged_ok, sWithin_ok, ice_holds, trivial⟩) G0_ok fun k0 rl args hpu hpre => ?_
  unfold typeOkC at hpre ⊢
  split at hpre
  rotate_left
  · exact hpre.elim
  rename_i s ns zs gs d0 d1 d2 d3 d4 d5 d6 d7 side nq zq gq m zt gt
  obtain ⟨rfl, rfl, rfl, hs, hq, ht, hok⟩ := hpre
  have hp1 := hs.pu
  have hp2 := hq.pu
  have hp3 := ht.pu
  have hmm := hok.cnt
  have hm := ht.1
  have hsq := (squaresE_zero.1 hok.squares).1
  have hc : countedE (m : Int) 6 = 0 := by
    unfold countedE; rw [firstL_zero]; simp [err]; omega
  simp only [Proofs.Try.f68]
  simp (maxSteps := 4000000) only [go_sem, ↓op_move, ↓op_assign, ↓op_pick, ↓op_alloc, ↓op_box, ↓op_build, ↓op_buildSlice, ↓op_load, ↓op_store, ↓op_nilCheck, ↓op_bin, ↓op_un, ↓op_convert, ↓op_makeFunc, ↓op_makeSlice, ↓op_slice, ↓op_fieldAddr, ↓op_field, ↓op_indexAddr, ↓op_index, ↓op_extract, ↓op_range, ↓op_next, ↓op_call, ↓op_builtin, ↓g_tt, ↓g_ff, ↓g_tf, ↓g_ft, ↓g_tnt, ↓g_tnf, ↓g_fnt, ↓g_fnf, hp1, hp2, hp3, hc]
  have hq8 := hsq.2.1
  refine ⟨⟨by omega, by omega, by omega, by omega⟩, ?_⟩
  refine RestT.ents (Ents.killC (l := (5, 20)) (l2 := (5, 4)) (n := nq) (sz := 1) (get := fun _ => [.int .i64 0]) (cs := [.int .i64 0, .msl (5, 20) 0 nq]) (j := 1) (by decide) (by simp [updH]) (by simp [updH]) rfl (fun i j v _ hv => by rcases j with _ | j <;> simp at hv; subst hv; exact .int _ _)) ?_
  refine RestT.loopI (β := Nat) [2, 6, 7, 8, 9, 26, 27, 28, 29, 30, 31, 32, 33, 34, 35, 36, 37, 38, 39, 40, 41, 42, 43, 44, 45, 46, 47, 48, 49, 50, 51, 52, 53, 54, 55, 56, 57, 58, 59, 60, 61, 62, 63, 64, 65, 66, 67, 68, 69, 70, 71, 72, 73, 74, 75, 76, 77, 78, 79, 80, 81, 82, 83, 84, 85] (fun i => [(25, .int .i64 i)]) (fun i => updH (fun _ => none) (5, 4) (.cells [.int .i64 (lastP gt i), .sl nq 1 (lastG gt i)])) (fun i => i ≤ m) (fun i => m - i) 0 (Nat.zero_le _) ?_ (HpLe.upd HpLe.none ⟨_, updH_same _ _ _, rfl⟩) ?_
  · simp (maxSteps := 4000000) only [go_sem, ↓op_move, ↓op_assign, ↓op_pick, ↓op_alloc, ↓op_box, ↓op_build, ↓op_buildSlice, ↓op_load, ↓op_store, ↓op_nilCheck, ↓op_bin, ↓op_un, ↓op_convert, ↓op_makeFunc, ↓op_makeSlice, ↓op_slice, ↓op_fieldAddr, ↓op_field, ↓op_indexAddr, ↓op_index, ↓op_extract, ↓op_range, ↓op_next, ↓op_call, ↓op_builtin, ↓g_tt, ↓g_ff, ↓g_tf, ↓g_ft, ↓g_tnt, ↓g_tnf, ↓g_fnt, ↓g_fnf]
    try simp
  · intro ck i hck hi
    generalize hq0 : exC _ _ _ _ _ = gg
    by_cases hlt : i < m
    · have hd : decide ((i : Int) < (m : Int)) = true := by simp; omega
      have hset := setOk hok hlt
      obtain ⟨hg, hin⟩ := ht.2 i hlt
      have hp4 := hin.pu
      have hln := hset.2.2.1
      have hrp : rng (cell gt i 0) 1 100 = 0 := rng_zero.2 hset.1
      have hre : rngs nq (inG gt i 1) 0 100000000 = 0 := rngs_zero.2 hset.2.2.2.1
      have hlp : decide (cell gt i 0 ≤ lastP gt i) = false := by
        refine decide_eq_false ?_
        unfold lastP
        split
        · omega
        · have := hset.2.1 (by omega); omega
      rw [← hq0]
      clear hq0
      rw [hln] at hg hin hp4
      simp (maxSteps := 4000000) only [go_sem, ↓op_move, ↓op_assign, ↓op_pick, ↓op_alloc, ↓op_box, ↓op_build, ↓op_buildSlice, ↓op_load, ↓op_store, ↓op_nilCheck, ↓op_bin, ↓op_un, ↓op_convert, ↓op_makeFunc, ↓op_makeSlice, ↓op_slice, ↓op_fieldAddr, ↓op_field, ↓op_indexAddr, ↓op_index, ↓op_extract, ↓op_range, ↓op_next, ↓op_call, ↓op_builtin, ↓g_tt, ↓g_ff, ↓g_tf, ↓g_ft, ↓g_tnt, ↓g_tnf, ↓g_fnt, ↓g_fnf, hd, hg, hp1, hp2, hp3, hp4, hrp, hre, hlp]
      have hz : firstL [0, err false 11, err false 2, 0] = 0 := rfl
      rw [hz]
      refine ⟨by omega, ⟨hin, by omega⟩, fun _ => VEnt.of_eq rfl, fun _ => ?_⟩
      refine RestT.loopI (β := Nat) [2, 8, 9, 58, 59, 60, 61, 62, 63, 64, 65, 66, 67, 68, 69, 70, 71, 72, 73, 74, 75, 76, 77, 78, 79, 80, 81, 82, 83] (fun k => [(57, .int .i64 k)]) (fun _ => _) (fun k => k ≤ nq) (fun k => nq - k) 0 (Nat.zero_le _) ?_ (HpLe.refl _) ?_
      · simp (maxSteps := 4000000) only [go_sem, ↓op_move, ↓op_assign, ↓op_pick, ↓op_alloc, ↓op_box, ↓op_build, ↓op_buildSlice, ↓op_load, ↓op_store, ↓op_nilCheck, ↓op_bin, ↓op_un, ↓op_convert, ↓op_makeFunc, ↓op_makeSlice, ↓op_slice, ↓op_fieldAddr, ↓op_field, ↓op_indexAddr, ↓op_index, ↓op_extract, ↓op_range, ↓op_next, ↓op_call, ↓op_builtin, ↓g_tt, ↓g_ff, ↓g_tf, ↓g_ft, ↓g_tnt, ↓g_tnf, ↓g_fnt, ↓g_fnf]
        try simp
      · intro ck2 k hck2 hk
        generalize hq0 : exC _ _ _ _ _ = gg
        by_cases hkl : k < nq
        · have hd2 : decide ((k : Int) < (nq : Int)) = true := by simp; omega
          have hgk := hin.2 k hkl
          have hbd := hset.2.2.2.2 k hkl
          have hk0 := (hset.2.2.2.1 k hkl).1
          have hgl : lastG gt i k = [.int .i64 (lastV gt i k)] := by
            unfold lastG lastV
            split
            · rfl
            · have hset2 := setOk hok (i := i - 1) (by omega)
              exact (ht.2 (i - 1) (by omega)).2.2 k (by rw [hset2.2.2.1]; exact hkl)
          have hll : decide (intAt (inG gt i 1) k < lastV gt i k) = false := by
            refine decide_eq_false ?_
            unfold lastV
            split
            · omega
            · rename_i hi0
              intro q
              simp [enBad, q] at hbd
              omega
          rcases Nat.eq_zero_or_pos k with rfl | hkp
          · rw [← hq0]
            clear hq0
            simp (maxSteps := 4000000) only [go_sem, ↓op_move, ↓op_assign, ↓op_pick, ↓op_alloc, ↓op_box, ↓op_build, ↓op_buildSlice, ↓op_load, ↓op_store, ↓op_nilCheck, ↓op_bin, ↓op_un, ↓op_convert, ↓op_makeFunc, ↓op_makeSlice, ↓op_slice, ↓op_fieldAddr, ↓op_field, ↓op_indexAddr, ↓op_index, ↓op_extract, ↓op_range, ↓op_next, ↓op_call, ↓op_builtin, ↓g_tt, ↓g_ff, ↓g_tf, ↓g_ft, ↓g_tnt, ↓g_tnf, ↓g_fnt, ↓g_fnf, hd2, hp4, hgk, hgl, hll]
            exact ⟨fun _ => ⟨by omega, by omega, inK_of (by omega) (by omega), by omega, 1, by omega, by omega, rfl, HpLe.refl _⟩, fun h => absurd (show (0 : Int) < (nq : Int) by omega) h⟩
          · have e1 : decide ((0 : Int) < (k : Int)) = true := by simp; omega
            have e2 : Int.toNat ((k : Int) - 1) = k - 1 := by omega
            have hgk1 := hin.2 (k - 1) (by omega)
            have hlt2 : decide (intAt (inG gt i 1) (k - 1) < intAt (inG gt i 1) k) = false := by
              refine decide_eq_false ?_
              intro q
              simp [enBad, q] at hbd
              omega
            rw [← hq0]
            clear hq0
            simp (maxSteps := 4000000) only [go_sem, ↓op_move, ↓op_assign, ↓op_pick, ↓op_alloc, ↓op_box, ↓op_build, ↓op_buildSlice, ↓op_load, ↓op_store, ↓op_nilCheck, ↓op_bin, ↓op_un, ↓op_convert, ↓op_makeFunc, ↓op_makeSlice, ↓op_slice, ↓op_fieldAddr, ↓op_field, ↓op_indexAddr, ↓op_index, ↓op_extract, ↓op_range, ↓op_next, ↓op_call, ↓op_builtin, ↓g_tt, ↓g_ff, ↓g_tf, ↓g_ft, ↓g_tnt, ↓g_tnf, ↓g_fnt, ↓g_fnf, hd2, hp4, hgk, hgk1, hgl, hll, e1, e2, hlt2]
            exact ⟨by omega, inK_of (by omega) (by omega), by omega, by omega, inK_of (by omega) (by omega), by omega, k + 1, hkl, by omega, rfl, HpLe.refl _⟩
        · have hd2 : decide ((k : Int) < (nq : Int)) = false := by simp; omega
          rw [← hq0]
          clear hq0
          simp (maxSteps := 4000000) only [go_sem, ↓op_move, ↓op_assign, ↓op_pick, ↓op_alloc, ↓op_box, ↓op_build, ↓op_buildSlice, ↓op_load, ↓op_store, ↓op_nilCheck, ↓op_bin, ↓op_un, ↓op_convert, ↓op_makeFunc, ↓op_makeSlice, ↓op_slice, ↓op_fieldAddr, ↓op_field, ↓op_indexAddr, ↓op_index, ↓op_extract, ↓op_range, ↓op_next, ↓op_call, ↓op_builtin, ↓g_tt, ↓g_ff, ↓g_tf, ↓g_ft, ↓g_tnt, ↓g_tnf, ↓g_fnt, ↓g_fnf, hd2, hp4]
          exact ⟨inK_of (by omega) (by omega), by omega, i + 1, hlt, by omega, rfl, HpLe.upd HpLe.none ⟨_, updH_same _ _ _, by simp [ObjLe, lastP, lastG]⟩⟩
    · have hd : decide ((i : Int) < (m : Int)) = false := by simp; omega
      rw [← hq0]
      clear hq0
      simp (maxSteps := 4000000) only [go_sem, ↓op_move, ↓op_assign, ↓op_pick, ↓op_alloc, ↓op_box, ↓op_build, ↓op_buildSlice, ↓op_load, ↓op_store, ↓op_nilCheck, ↓op_bin, ↓op_un, ↓op_convert, ↓op_makeFunc, ↓op_makeSlice, ↓op_slice, ↓op_fieldAddr, ↓op_field, ↓op_indexAddr, ↓op_index, ↓op_extract, ↓op_range, ↓op_next, ↓op_call, ↓op_builtin, ↓g_tt, ↓g_ff, ↓g_tf, ↓g_ft, ↓g_tnt, ↓g_tnf, ↓g_fnt, ↓g_fnf, hd]
      exact VEnt.of_eq rfl

theorem sType_ok : Holds Proofs.Try.prog G0 39 typeOkC := by
  refine Holds.of_exC D39 Proofs.Try.func39 rfl foll (by kernel_rfl) (tab [(38, firstC), (47, sumC), (63, whenC), (64, nameC), (65, countedC), (66, rangedC), (67, withinC), (68, typeOkC), (iceKey 1, iceC)]) (tab_ok ⟨sFirst_ok, sSum_ok, sWhen_ok, dName_ok, sCounted_ok, sRanged_ok, sWithin_ok, sSettings_ok, ice_holds, trivial⟩) G0_ok fun k0 rl args hpu hpre => ?_
  unfold typeOkC at hpre ⊢
  split at hpre
  rotate_left
  · exact hpre.elim
  rename_i s ns zs gs d0 d1 d2 d3 d4 d5 d6 d7 side nq zq gq m zt gt
  obtain ⟨rfl, rfl, rfl, hs, hq, ht, hok⟩ := hpre
  have hp1 := hs.pu
  have hp2 := hq.pu
  have hp3 := ht.pu
  have hmm := hok.cnt
  have hnm := hok.name
  have hsh := sharesE_zero.1 hok.shares
  have hsq := squaresE_zero.1 hok.squares
  have hc1 : countedE (ns : Int) 8 = 0 := by
    unfold countedE; rw [firstL_zero]; simp [err]; omega
  have hc2 : countedE (nq : Int) 8 = 0 := by
    unfold countedE; rw [firstL_zero]; simp [err]; omega
  have hr1 : rngs ns gs 0 1000 = 0 := rngs_zero.2 hsh.1.2.2
  have hr2 : rngs nq gq 0 100000000000 = 0 := rngs_zero.2 hsq.1.2.2
  have hr3 : rng side 0 1000 = 0 := rng_zero.2 hok.sideOk
  have hs1 := hsh.2
  have hz1 : firstL [err false 8, 0, 0, err false 1] = 0 := rfl
  have hz2 : firstL [0, 0, 0, 0] = 0 := rfl
  have hdr : ∀ i, i < 8 → rowAt (V.int .i64 d0 :: V.int .i64 d1 :: V.int .i64 d2 :: V.int .i64 d3 :: V.int .i64 d4 :: V.int .i64 d5 :: V.int .i64 d6 :: V.int .i64 d7 :: [.int .i64 side, .sl nq 1 gq, .sl m 2 gt]) 1 i = [.int .i64 (dirAt d0 d1 d2 d3 d4 d5 d6 d7 i)] := fun i hi => dirs_row hi
  have hr4 : rngs 8 (rowAt (V.int .i64 d0 :: V.int .i64 d1 :: V.int .i64 d2 :: V.int .i64 d3 :: V.int .i64 d4 :: V.int .i64 d5 :: V.int .i64 d6 :: V.int .i64 d7 :: [.int .i64 side, .sl nq 1 gq, .sl m 2 gt]) 1) 0 2000 = 0 :=
    rngs_zero.2 fun i hi => by simp only [intAt, hdr i hi]; exact hok.dir i hi
  have hi4 : IsInts 8 (rowAt (V.int .i64 d0 :: V.int .i64 d1 :: V.int .i64 d2 :: V.int .i64 d3 :: V.int .i64 d4 :: V.int .i64 d5 :: V.int .i64 d6 :: V.int .i64 d7 :: [.int .i64 side, .sl nq 1 gq, .sl m 2 gt]) 1) :=
    ⟨by decide, fun i hi => by simp only [intAt, hdr i hi]⟩
  simp only [Proofs.Try.f39]
  simp (maxSteps := 4000000) only [go_sem, ↓op_move, ↓op_assign, ↓op_pick, ↓op_alloc, ↓op_box, ↓op_build, ↓op_buildSlice, ↓op_load, ↓op_store, ↓op_nilCheck, ↓op_bin, ↓op_un, ↓op_convert, ↓op_makeFunc, ↓op_makeSlice, ↓op_slice, ↓op_fieldAddr, ↓op_field, ↓op_indexAddr, ↓op_index, ↓op_extract, ↓op_range, ↓op_next, ↓op_call, ↓op_builtin, ↓g_tt, ↓g_ff, ↓g_tf, ↓g_ft, ↓g_tnt, ↓g_tnf, ↓g_fnt, ↓g_fnf, hp1, hp2, hp3, hnm, hc1, hc2, hr1, hr2, hr3, hs1, hz1, hz2, hr4]
  have hlen : s.length ≤ 24 := by
    simp only [nameB, Bool.and_eq_true, decide_eq_true_eq] at hnm
    exact hnm.1.2
  refine ⟨by omega, ⟨hs, by omega⟩, ⟨hs, by omega, fun i hi => by have := hsh.1.2.2 i hi; omega⟩, hi4, ⟨hq, by omega⟩, ?_⟩
  refine RestT.loopI (β := Nat) [2, 5, 6, 51, 52, 53, 54, 55, 56, 57, 58, 59, 60, 61, 62, 63, 64, 65, 66, 67, 68, 69, 70, 71, 72, 73, 74, 75] (fun i => [(50, .int .i64 i)]) (fun _ => _) (fun i => i ≤ nq) (fun i => nq - i) 0 (Nat.zero_le _) ?_ (HpLe.refl _) ?_
  · simp (maxSteps := 4000000) only [go_sem, ↓op_move, ↓op_assign, ↓op_pick, ↓op_alloc, ↓op_box, ↓op_build, ↓op_buildSlice, ↓op_load, ↓op_store, ↓op_nilCheck, ↓op_bin, ↓op_un, ↓op_convert, ↓op_makeFunc, ↓op_makeSlice, ↓op_slice, ↓op_fieldAddr, ↓op_field, ↓op_indexAddr, ↓op_index, ↓op_extract, ↓op_range, ↓op_next, ↓op_call, ↓op_builtin, ↓g_tt, ↓g_ff, ↓g_tf, ↓g_ft, ↓g_tnt, ↓g_tnf, ↓g_fnt, ↓g_fnf]
    try simp
  · intro ck i hck hi
    generalize hq0 : exC _ _ _ _ _ = gg
    by_cases hlt : i < nq
    · have hd : decide ((i : Int) < (nq : Int)) = true := by simp; omega
      have hg := hq.2 i hlt
      have hbad := hsq.2 i hlt
      rcases Nat.eq_zero_or_pos i with rfl | hpos
      · have h0 : intAt gq 0 = 0 := by simpa [sqBad] using hbad
        rw [← hq0]
        clear hq0
        simp (maxSteps := 4000000) only [go_sem, ↓op_move, ↓op_assign, ↓op_pick, ↓op_alloc, ↓op_box, ↓op_build, ↓op_buildSlice, ↓op_load, ↓op_store, ↓op_nilCheck, ↓op_bin, ↓op_un, ↓op_convert, ↓op_makeFunc, ↓op_makeSlice, ↓op_slice, ↓op_fieldAddr, ↓op_field, ↓op_indexAddr, ↓op_index, ↓op_extract, ↓op_range, ↓op_next, ↓op_call, ↓op_builtin, ↓g_tt, ↓g_ff, ↓g_tf, ↓g_ft, ↓g_tnt, ↓g_tnf, ↓g_fnt, ↓g_fnf, hd, hg, hp1, hp2, hp3, h0]
        exact ⟨fun _ => ⟨by omega, inK_of (by omega) (by omega), by omega, 1, by omega, by omega, rfl, HpLe.refl _⟩, fun h => absurd (show (0 : Int) < (nq : Int) by omega) h⟩
      · have f1 : decide ((i : Int) = 0) = false := by simp; omega
        have f2 : decide ((0 : Int) < (i : Int)) = true := by simp; omega
        have f3 : Int.toNat ((i : Int) - 1) = i - 1 := by omega
        have hg1 := hq.2 (i - 1) (by omega)
        have hz : ¬ i = 0 := by omega
        have f4 : decide (intAt gq i ≤ intAt gq (i - 1)) = false := by simpa [sqBad, hz] using hbad
        rw [← hq0]
        clear hq0
        simp (maxSteps := 4000000) only [go_sem, ↓op_move, ↓op_assign, ↓op_pick, ↓op_alloc, ↓op_box, ↓op_build, ↓op_buildSlice, ↓op_load, ↓op_store, ↓op_nilCheck, ↓op_bin, ↓op_un, ↓op_convert, ↓op_makeFunc, ↓op_makeSlice, ↓op_slice, ↓op_fieldAddr, ↓op_field, ↓op_indexAddr, ↓op_index, ↓op_extract, ↓op_range, ↓op_next, ↓op_call, ↓op_builtin, ↓g_tt, ↓g_ff, ↓g_tf, ↓g_ft, ↓g_tnt, ↓g_tnf, ↓g_fnt, ↓g_fnf, hd, hg, hg1, hp1, hp2, hp3, f1, f2, f3, f4]
        exact ⟨by omega, inK_of (by omega) (by omega), by omega, inK_of (by omega) (by omega), by omega, i + 1, hlt, by omega, rfl, HpLe.refl _⟩
    · have hd : decide ((i : Int) < (nq : Int)) = false := by simp; omega
      rw [← hq0]
      clear hq0
      simp (maxSteps := 4000000) only [go_sem, ↓op_move, ↓op_assign, ↓op_pick, ↓op_alloc, ↓op_box, ↓op_build, ↓op_buildSlice, ↓op_load, ↓op_store, ↓op_nilCheck, ↓op_bin, ↓op_un, ↓op_convert, ↓op_makeFunc, ↓op_makeSlice, ↓op_slice, ↓op_fieldAddr, ↓op_field, ↓op_indexAddr, ↓op_index, ↓op_extract, ↓op_range, ↓op_next, ↓op_call, ↓op_builtin, ↓g_tt, ↓g_ff, ↓g_tf, ↓g_ft, ↓g_tnt, ↓g_tnf, ↓g_fnt, ↓g_fnf, hd, hp1, hp2, hp3]
      exact ⟨⟨hs, hq, ht, hok⟩, VEnt.of_eq rfl⟩

theorem sHeard2_ok : Holds Proofs.Try.prog G0 17 heard2C := by
  refine Holds.of_exC D17 Proofs.Try.func17 rfl foll (by kernel_rfl) (tab [(38, firstC), (39, typeOkC), (40, pointC 100000 20000), (41, dirC 200000), (42, int1C (fun n => rng n 1 100)), (43, heardC), (iceKey 3, iceC), (iceKey 4, iceC), (iceKey 5, iceC)]) (tab_ok ⟨sFirst_ok, sType_ok, sPlace_ok, sDir_ok, sPower_ok, sHeard_ok, ice_holds, ice_holds, ice_holds, trivial⟩) G0_ok fun k0 rl args hpu hpre => ?_
  unfold heard2C at hpre ⊢
  split at hpre
  rotate_left
  · exact hpre.elim
  rename_i s ns zs gs d0 d1 d2 d3 d4 d5 d6 d7 side nq zq gq m zt gt x y z hx hy p u v w
  obtain ⟨rfl, rfl, rfl, hs, hq, ht, hok, hx1, hh1, hp0, hu1⟩ := hpre
  have hp1 := hs.pu
  have hp2 := hq.pu
  have hp3 := ht.pu
  simp only [Proofs.Try.f17]
  simp (maxSteps := 4000000) only [go_sem, ↓op_move, ↓op_assign, ↓op_pick, ↓op_alloc, ↓op_box, ↓op_build, ↓op_buildSlice, ↓op_load, ↓op_store, ↓op_nilCheck, ↓op_bin, ↓op_un, ↓op_convert, ↓op_makeFunc, ↓op_makeSlice, ↓op_slice, ↓op_fieldAddr, ↓op_field, ↓op_indexAddr, ↓op_index, ↓op_extract, ↓op_range, ↓op_next, ↓op_call, ↓op_builtin, ↓g_tt, ↓g_ff, ↓g_tf, ↓g_ft, ↓g_tnt, ↓g_tnf, ↓g_fnt, ↓g_fnf, hp1, hp2, hp3]
  have h0 : firstL [0, pointE 100000 20000 x y z, dirE 200000 hx hy, rng p 1 100, pointE 100000 20000 u v w] = 0 := by
    rw [firstL_zero]
    have g1 : pointE 100000 20000 x y z = 0 := by unfold pointE; rw [firstL_zero]; simp [rng_zero]; exact hx1
    have g2 : pointE 100000 20000 u v w = 0 := by unfold pointE; rw [firstL_zero]; simp [rng_zero]; exact hu1
    have g3 : dirE 200000 hx hy = 0 := by unfold dirE; rw [firstL_zero]; simp [rng_zero]; exact hh1
    simp [g1, g2, g3, rng_zero, hp0]
  rw [h0]
  exact ⟨⟨hs, hq, ht, hok⟩, fun h => (by simp at h), fun h => ⟨⟨hs, hq, ht, hok, hx1, hh1, hp0, hu1⟩, VEnt.of_eq rfl⟩⟩

theorem sBanded_ok : Holds Proofs.Try.prog G0 18 bandedC := by
  refine Holds.of_exC D18 Proofs.Try.func18 rfl foll (by kernel_rfl) (tab [(38, firstC), (39, typeOkC), (44, int1C (fun n => rng n 0 10000000000000)), (45, mapBandC 46), (46, bandC), (47, sumC), (iceKey 2, iceC), (iceKey 3, iceC)]) (tab_ok ⟨sFirst_ok, sType_ok, dEnergy_ok, sMapBand_ok, sBand_ok, sSum_ok, ice_holds, ice_holds, trivial⟩) G0_ok fun k0 rl args hpu hpre => ?_
  unfold bandedC at hpre ⊢
  split at hpre
  rotate_left
  · exact hpre.elim
  rename_i s ns zs gs d0 d1 d2 d3 d4 d5 d6 d7 side nq zq gq m zt gt e
  obtain ⟨rfl, rfl, rfl, hs, hq, ht, hok, he1, he2⟩ := hpre
  have hp1 := hs.pu
  have hp2 := hq.pu
  have hp3 := ht.pu
  have hr : rng e 0 10000000000000 = 0 := rng_zero.2 ⟨he1, he2⟩
  have hfz : firstL [0, 0] = 0 := rfl
  have hz0 : 0 + ns = ns := Nat.zero_add ns
  simp only [Proofs.Try.f18]
  simp (maxSteps := 4000000) only [go_sem, ↓op_move, ↓op_assign, ↓op_pick, ↓op_alloc, ↓op_box, ↓op_build, ↓op_buildSlice, ↓op_load, ↓op_store, ↓op_nilCheck, ↓op_bin, ↓op_un, ↓op_convert, ↓op_makeFunc, ↓op_makeSlice, ↓op_slice, ↓op_fieldAddr, ↓op_field, ↓op_indexAddr, ↓op_index, ↓op_extract, ↓op_range, ↓op_next, ↓op_call, ↓op_builtin, ↓g_tt, ↓g_ff, ↓g_tf, ↓g_ft, ↓g_tnt, ↓g_tnf, ↓g_fnt, ↓g_fnf, hp1, hp2, hp3, hz0, hr, hfz]
  have hsh := sharesE_zero.1 hok.shares
  have hbs := bands_sum (e := e) (f := intAt gs) (n := ns) he1 (fun i hi => (hsh.1.2.2 i hi).1) hsh.2
  have hbd : ∀ i, i < ns → 0 ≤ bandE e (intAt gs i) ∧ bandE e (intAt gs i) ≤ 10000000000000 := fun i hi => by
    have h1 := bandE_bd he1 (hsh.1.2.2 i hi).1
    have h2 := mul_le_of he1 he2 (hsh.1.2.2 i hi).1 (hsh.1.2.2 i hi).2
    omega
  have hb0 := hbd 0 hsh.1.1
  have hcl : (fun i => bandE e (intAt gs (0 + i))) = fun i => bandE e (intAt gs i) := funext fun i => by rw [Nat.zero_add]
  simp only [Nat.zero_add]
  refine ⟨⟨hs, hq, ht, hok⟩, ⟨hs, by omega, hsh.1.2.2, he1, he2⟩, ⟨isInts_fn _ hs.1, by omega, fun i hi => by have := hbd i hi; omega⟩, inK_of (by omega) (by omega), by omega, inK_of (by omega) (by omega), by omega, VEnt.tup ⟨VEnt.sl fun i hi => ?_, VEnt.of_eq rfl, trivial⟩⟩
  unfold bandsE
  have hrow : ∀ (f : V → V) (a : Int), frzRow f [V.int .i64 a] = [V.int .i64 a] := fun f a => frzRow_pu fun v hv => (ones1 v hv).1
  by_cases h0 : i = 0
  · subst h0
    first
      | (simp [hrow]; done)
      | (simp [hrow]; omega)
  · simp [h0, hrow]
end Go.Fly.Try
