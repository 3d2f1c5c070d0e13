/- The verifier: a fixed example. -/
import Derived.Test.YtlfciglmhomdpaaSBP
import Derived.Test.YtlfciglmhomdpaaSBJ
set_option linter.unusedSimpArgs false
set_option linter.unusedVariables false
set_option maxRecDepth 100000
set_option maxHeartbeats 8000000
namespace Go.Fly.Try
open Go

theorem loudH : heardE (dirAt 1000 1000 1000 1000 1000 1000 1000 1000) 1000 1 (rowAt [V.int .i64 0] 1) 1 (rowAt [V.int .i64 1, V.sl 1 1 (rowAt [V.int .i64 1000] 1)] 2) 0 0 1 100 0 0 = 1000 := by kernel_rfl
theorem loudB : bandsE 1000 (intAt (rowAt [V.int .i64 1000] 1)) 1 0 = 1000 := by kernel_rfl
theorem loudL : pLo 1 (rowAt [V.int .i64 1, V.int .i64 340, V.int .i64 0, V.int .i64 0, V.sl 1 2 (rowAt [V.int .i64 900, V.int .i64 950] 2)] 5) 0 0 0 100 0 0 0 = 900 := by kernel_rfl
theorem loudP : pHi 1 (rowAt [V.int .i64 1, V.int .i64 340, V.int .i64 0, V.int .i64 0, V.sl 1 2 (rowAt [V.int .i64 900, V.int .i64 950] 2)] 5) 0 0 0 100 0 0 0 = 950 := by kernel_rfl
theorem loudA : arrLo 1000 900 = 900 := by kernel_rfl
theorem loudC2 : arrHi 1000 950 = 950 := by kernel_rfl
theorem loudT : typeE [97] 1 (rowAt [V.int .i64 1000] 1) (dirAt 1000 1000 1000 1000 1000 1000 1000 1000) 1000 1 (rowAt [V.int .i64 0] 1) 1 (rowAt [V.int .i64 1, V.sl 1 1 (rowAt [V.int .i64 1000] 1)] 2) = 0 := by kernel_rfl
theorem loudAir : airE 1 (rowAt [V.int .i64 1, V.int .i64 340, V.int .i64 0, V.int .i64 0, V.sl 1 2 (rowAt [V.int .i64 900, V.int .i64 950] 2)] 5) = 0 := by kernel_rfl
theorem one_ints (a : Int) : IsInts 1 (rowAt [V.int .i64 a] 1) := ⟨by decide, fun i hi => by
  obtain rfl : i = 0 := Nat.lt_one_iff.1 hi
  rfl⟩
theorem one_set : IsSet 1 (rowAt [V.int .i64 1, V.sl 1 1 (rowAt [V.int .i64 1000] 1)] 2) := ⟨by decide, fun i hi => by
  obtain rfl : i = 0 := Nat.lt_one_iff.1 hi
  exact ⟨rfl, one_ints 1000⟩⟩
theorem one_iv : IsIv 1 (rowAt [V.int .i64 900, V.int .i64 950] 2) := ⟨by decide, fun i hi => by
  obtain rfl : i = 0 := Nat.lt_one_iff.1 hi
  rfl⟩
theorem one_air : IsAir 1 (rowAt [V.int .i64 1, V.int .i64 340, V.int .i64 0, V.int .i64 0, V.sl 1 2 (rowAt [V.int .i64 900, V.int .i64 950] 2)] 5) := ⟨by decide, fun i hi => by
  obtain rfl : i = 0 := Nat.lt_one_iff.1 hi
  exact ⟨rfl, one_iv⟩⟩
theorem onePu (a : Int) : Pu (.sl 1 1 (rowAt [V.int .i64 a] 1)) := (one_ints a).pu
theorem onePu2 : Pu (.sl 1 2 (rowAt [V.int .i64 1, V.sl 1 1 (rowAt [V.int .i64 1000] 1)] 2)) := one_set.pu
theorem onePu3 : Pu (.sl 1 2 (rowAt [V.int .i64 900, V.int .i64 950] 2)) := one_iv.pu
theorem onePu4 : Pu (.sl 1 5 (rowAt [V.int .i64 1, V.int .i64 340, V.int .i64 0, V.int .i64 0, V.sl 1 2 (rowAt [V.int .i64 900, V.int .i64 950] 2)] 5)) := one_air.pu
theorem tLoud_ok : Holds Proofs.Try.prog G0 5 loudC := by
  refine Holds.of_exC D5 Proofs.Try.func5 rfl foll (by kernel_rfl) (tab [(10, arrived2C), (17, heard2C), (18, bandedC), (iceKey 9, iceC), (iceKey 11, iceC), (iceKey 12, iceC), (iceKey 14, iceC), (iceKey 30, iceC), (iceKey 32, iceC)]) (tab_ok ⟨aArrived_ok, sHeard2_ok, sBanded_ok, ice_holds, ice_holds, ice_holds, ice_holds, ice_holds, ice_holds, trivial⟩) G0_ok fun k0 rl args hpu hpre => ?_
  unfold loudC at hpre ⊢
  split at hpre
  rotate_left
  · exact hpre.elim
  simp only [Proofs.Try.f5]
  simp (maxSteps := 4000000) only [go_sem, ↓op_move, ↓op_assign, ↓op_pick, ↓op_alloc, ↓op_box, ↓op_build, ↓op_buildSlice, ↓op_load, ↓op_store, ↓op_nilCheck, ↓op_bin, ↓op_un, ↓op_convert, ↓op_makeFunc, ↓op_makeSlice, ↓op_slice, ↓op_fieldAddr, ↓op_field, ↓op_indexAddr, ↓op_index, ↓op_extract, ↓op_range, ↓op_next, ↓op_call, ↓op_builtin, ↓g_tt, ↓g_ff, ↓g_tf, ↓g_ft, ↓g_tnt, ↓g_tnf, ↓g_fnt, ↓g_fnf, loudH, loudB, loudL, loudP, loudA, loudC2, onePu, onePu2, onePu3, onePu4]
  have hpl0 : PlaceOk 0 0 0 := by unfold PlaceOk; omega
  have hpl1 : PlaceOk 100 0 0 := by unfold PlaceOk; omega
  have hdr0 : DirOk 0 0 := by unfold DirOk; omega
  have hpa : PathOk 0 0 0 100 0 0 := by unfold PathOk; omega
  refine ⟨⟨one_ints 1000, one_ints 0, one_set, typeE_zero.1 loudT, hpl0, hdr0, hpl1⟩, ⟨one_ints 1000, one_ints 0, one_set, typeE_zero.1 loudT⟩, ⟨one_air, loudAir, hpa, isInts_fn _ (by decide), rfl, fun i hi => ?_⟩, VEnt.of_eq rfl⟩
  obtain rfl : i = 0 := Nat.lt_one_iff.1 hi
  rw [loudB]
  decide
end Go.Fly.Try
