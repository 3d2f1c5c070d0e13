/- The law's fixed examples. -/
import Derived.Test.YtmlknpghkclffaaGreatDoorSYAGM
import Derived.Test.YtmlknpghkclffaaGreatDoorAV
set_option linter.unusedSimpArgs false
set_option linter.unusedVariables false
set_option maxRecDepth 100000
set_option maxHeartbeats 40000000
namespace Go.Fly.Tryz
open Go

def DAw : Tabs
  | 11 => [[], [], [], [], [], [], [], [], [], [], [], [], [], [], [], [], [], [], [], [], [], [], [], [], [], [], [], [], [], [], [], [], [], [], [], [], [], [], [], [], [], [], [], [], [], [], [], [], [], [], [], [], [], [], [], [], [55], [], [], [], [], [], [], [], [], [], [], [], [], [], [], [], [], [], [], [], [], [], [], [], [], [], [], [], [], [], [], [], [], [], [], [], [], [], [], [], [], [], [], [], [], [], []]
  | _ => []
attribute [go_sem] DAw
theorem lAwake_ok : Holds Proofs.Tryz.prog G0 15 awakeC := by
  refine Holds.of_exC DAw Proofs.Tryz.func15 rfl foll (by kernel_rfl) (tab [(18, lat3C), (20, splitC), (21, rev3C), (29, len3C), (31, steps3C), (37, passed3C), (38, echo3C), (41, arr3C), (43, em3C), (49, cmp3C), (50, rank3C), (55, sameNtC), (56, bent3C), (57, shad3C), (58, turn3C), (66, ofIvC), (67, fac3C), (68, share3C), (70, tot3C), (71, print3C), (77, twoC), (78, toPathC), (79, vecC), (80, sameIvC), (iceKey 113, iceC), (iceKey 123, iceC), (iceKey 327, iceC)]) (tab_ok ⟨gLat_ok, gSplit_ok, gRev_ok, gLen_ok, gSteps3_ok, gPassed3_ok, gEcho_ok, gArr_ok, gEm_ok, gCmp_ok, gRanked_ok, qSameN_ok, gBent_ok, gShad_ok, gTurn_ok, lOf_ok, gFac_ok, gShare_ok, gTot_ok, kPrint_ok, lTwo_ok, lTo_ok, lAt_ok, lSame_ok, ice_holds, ice_holds, ice_holds, trivial⟩) G0_ok fun k0 rl args hpu hpre => ?_
  unfold awakeC at hpre ⊢
  split at hpre
  rotate_left
  · exact hpre.elim
  have hpu := twoA_is.pu
  have f12 := aw_rep.pu
  have hpr := revG_is.pu
  have hp1 := two1_is.pu
  have h1T := eq_true two1_is
  simp only [Proofs.Tryz.f15]
  rw [enter_mkT (Nat.le_of_ble_eq_true rfl)]
  simp (maxSteps := 4000000) only [go_sem, ↓op_move, ↓op_assign, ↓op_pick, ↓op_alloc, ↓op_box, ↓op_build, ↓op_buildSlice, ↓op_load, ↓op_store, ↓op_nilCheck, ↓op_bin, ↓op_un, ↓op_convert, ↓op_makeFunc, ↓op_makeSlice, ↓op_slice, ↓op_fieldAddr, ↓op_field, ↓op_indexAddr, ↓op_index, ↓op_extract, ↓op_lookup, ↓op_mapUpdate, ↓op_makeMap, ↓op_range, ↓op_next, ↓op_call, ↓op_builtin, ↓g_tt, ↓g_ff, ↓g_tf, ↓g_ft, ↓g_tnt, ↓g_tnf, ↓g_fnt, ↓g_fnf, ↓mkT_getD, hpu, aw_f1, aw_f2, aw_f3, aw_f4, aw_f5, aw_f6, aw_f7, aw_f8, aw_f9, aw_f10, aw_f11, aw_g1, aw_g2, aw_g3, aw_s1, aw_s2, aw_s3, aw_s4, aw_s5, aw_s6, aw_h1, aw_h2, aw_h3, f12, orE_0, orE_7, ay_1, ay_2, ay_3, ay_4, ay_5, ay_6, ay_7, ay_8, ay_9, ay_10, ay_11, ay_12, ay_13, ay_14, ay_15, ay_16, ay_17, ay_18, ay_19, ay_20, ay_21, ay_22, ay_23, ay_24, ay_25, ay_26, ay_27, ay_28, ay_29, ay_30, ay_31, ay_32, ay_33, ay_34, isIv_lit1, isIv_lit1', isIv_lit2, isIv_f1, isIv_f2, isInts_l1, isInts_l2, isInts_f2, twoA_T, imp34_T, imp01_T, hpr, hp1, h1T, List.append_eq, List.cons_append, List.nil_append]
  have hin1 : ∀ a : Int, Pu (.sl 1 1 (rowAt [V.int .i64 a] 1)) := fun a => (show IsInts 1 _ from of_eq_true isInts_l1).pu
  have hti : IsIv 1 (totG 2 twoA 0 0 0 100 0 0 1 1 (rowAt [V.int .i64 1000] 1)) := isIv_fn _ _ (by decide)
  have h0 : inK .i64 0 := inK_of (by decide) (by decide)
  exact ⟨.inl (hin1 _), .inl (show IsIv 1 _ from of_eq_true isIv_lit1').pu, h0, h0, h0, h0, h0, h0, h0, h0, h0, ⟨.inl (hin1 _), hti.pu⟩, h0, h0, h0, h0, h0, h0, h0, h0, h0, h0, h0, h0, h0, h0,
    ⟨_, _, _, _, rfl, rfl, of_eq_true isInts_f2, of_eq_true isInts_l2⟩, hti, VEnt.refl _⟩
end Go.Fly.Tryz
