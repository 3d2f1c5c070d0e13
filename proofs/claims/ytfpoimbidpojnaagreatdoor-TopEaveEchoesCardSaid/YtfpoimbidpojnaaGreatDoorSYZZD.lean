/- Part of a proof: an evaluator of the model's code by abstract values, and plain laws for it. No conditions. -/
import Derived.Test.YtfpoimbidpojnaaGreatDoorSYZZC0
import Derived.Test.YtfpoimbidpojnaaGreatDoorSYZZC1
import Derived.Test.YtfpoimbidpojnaaGreatDoorSYZZC2
import Derived.Test.YtfpoimbidpojnaaGreatDoorSYZZC3
import Derived.Test.YtfpoimbidpojnaaGreatDoorSYZBE
import Derived.Test.YtfpoimbidpojnaaGreatDoorSYZED
import Derived.Test.YtfpoimbidpojnaaGreatDoorAK
set_option linter.unusedSimpArgs false
set_option linter.unusedVariables false
section
/- Walls that reflect: one wall. -/
set_option maxRecDepth 100000
namespace Go.Fly.Tryz
open Go
theorem rRefl_ok : Holds Proofs.Tryz.prog G0 55 reflC := refl_join rRefl0_ok rRefl1_ok rRefl2_ok rRefl3_ok
end Go.Fly.Tryz
end
section
/- Walls that reflect: all of them. -/
set_option maxRecDepth 100000
set_option maxHeartbeats 4000000
namespace Go.Fly.Tryz
open Go

theorem ones11 {a b c d e f g h i j k : Int} : ∀ v ∈ [V.int .i64 a, .int .i64 b, .int .i64 c, .int .i64 d, .int .i64 e, .int .i64 f, .int .i64 g, .int .i64 h, .int .i64 i, .int .i64 j, .int .i64 k], Pu v ∧ oneC v = true := fun v hv => by
  simp only [List.mem_cons, List.not_mem_nil, or_false] at hv
  rcases hv with rfl | rfl | rfl | rfl | rfl | rfl | rfl | rfl | rfl | rfl | rfl <;> exact one_int
theorem mirPu {m : Nat} {get : Nat → List V} {sx sy sz rx ry rz : Int} {f : Nat → Nat} : Pu (.sl m 11 fun j => mirR get sx sy sz rx ry rz (f j)) := pu_sl.2 fun j hj v hv => by
  simp only [mirR, List.mem_cons, List.not_mem_nil, or_false] at hv
  rcases hv with rfl | rfl | rfl | rfl | rfl | rfl | rfl | rfl | rfl | rfl | rfl <;> exact .int _ _
theorem tMir_ok : Holds Proofs.Tryz.prog G0 32 (mirItC 53) := by
  refine Holds.of_exC D32 Proofs.Tryz.func32 rfl foll (by kernel_rfl) (tab [(iceKey 3, iceC), (iceKey 4, iceC), (iceKey 5, iceC)]) (tab_ok ⟨ice_holds, ice_holds, ice_holds, trivial⟩) G0_ok fun k0 rl args hpu hpre => ?_
  unfold mirItC at hpre ⊢
  split at hpre
  rotate_left
  · exact hpre.elim
  rename_i n sz get sx sy sz' rx ry rz
  obtain ⟨rfl, hw⟩ := hpre
  have hp := hw.pu
  simp only [Proofs.Tryz.f32]
  simp (maxSteps := 4000000) only [go_sem, ↓op_move, ↓op_assign, ↓op_pick, ↓op_alloc, ↓op_box, ↓op_build, ↓op_buildSlice, ↓op_load, ↓op_store, ↓op_nilCheck, ↓op_bin, ↓op_un, ↓op_convert, ↓op_makeFunc, ↓op_makeSlice, ↓op_slice, ↓op_fieldAddr, ↓op_field, ↓op_indexAddr, ↓op_index, ↓op_extract, ↓op_lookup, ↓op_mapUpdate, ↓op_makeMap, ↓op_range, ↓op_next, ↓op_call, ↓op_builtin, ↓g_tt, ↓g_ff, ↓g_tf, ↓g_ft, ↓g_tnt, ↓g_tnf, ↓g_fnt, ↓g_fnf, ↓mkT_getD, hp]
  exact VEnt.of_eq rfl

theorem sApp_ok : Holds Proofs.Tryz.prog G0 52 (appSeqC 53) := by
  refine Holds.of_exC D52 Proofs.Tryz.func52 rfl foll (by kernel_rfl) (tab [(54, wevenC), (55, reflC)]) (tab_ok ⟨tEven_ok, rRefl_ok, trivial⟩) G0_ok fun k0 rl args hpu hpre => ?_
  unfold appSeqC at hpre ⊢
  split at hpre
  rotate_left
  · exact hpre.elim
  rename_i g n sz get sx sy sz' rx ry rz
  obtain ⟨rfl, rfl, hw, hwo, hs, hr⟩ := hpre
  have hp := hw.pu
  simp only [Proofs.Tryz.f52]
  simp (maxSteps := 4000000) only [go_sem, ↓op_move, ↓op_assign, ↓op_pick, ↓op_alloc, ↓op_box, ↓op_build, ↓op_buildSlice, ↓op_load, ↓op_store, ↓op_nilCheck, ↓op_bin, ↓op_un, ↓op_convert, ↓op_makeFunc, ↓op_makeSlice, ↓op_slice, ↓op_fieldAddr, ↓op_field, ↓op_indexAddr, ↓op_index, ↓op_extract, ↓op_lookup, ↓op_mapUpdate, ↓op_makeMap, ↓op_range, ↓op_next, ↓op_call, ↓op_builtin, ↓g_tt, ↓g_ff, ↓g_tf, ↓g_ft, ↓g_tnt, ↓g_tnf, ↓g_fnt, ↓g_fnf, ↓mkT_getD, hp]
  refine RestT.ents (Ents.nilC (l := (3, 1000)) (l2 := (2, 2)) (cs := [.nils]) (j := 0) 11 (fun j => mirR get sx sy sz' rx ry rz ((mirL n get sx sy sz' rx ry rz 0).getD j 0)) (by simp) (by simp [updH]) rfl (by simp [updH]) rfl) ?_
  refine RestT.rangeFunc2 rfl (f := 53) (fn := Proofs.Tryz.f53) rfl en53 Proofs.Tryz.func53 rfl (fun L => by simp [updH]) (Dc := D53) (by kernel_rfl) ?_
  intro L r k1 e1 e2 e3 e4 e5 e6 hm hd1 hd2
  simp (maxSteps := 4000000) only [go_sem, ↓op_move, ↓op_assign, ↓op_pick, ↓op_alloc, ↓op_box, ↓op_build, ↓op_buildSlice, ↓op_load, ↓op_store, ↓op_nilCheck, ↓op_bin, ↓op_un, ↓op_convert, ↓op_makeFunc, ↓op_makeSlice, ↓op_slice, ↓op_fieldAddr, ↓op_field, ↓op_indexAddr, ↓op_index, ↓op_extract, ↓op_lookup, ↓op_mapUpdate, ↓op_makeMap, ↓op_range, ↓op_next, ↓op_call, ↓op_builtin, ↓g_tt, ↓g_ff, ↓g_tf, ↓g_ft, ↓g_tnt, ↓g_tnf, ↓g_fnt, ↓g_fnf, ↓mkT_getD, Proofs.Tryz.f53]
  refine RestT.loopI (β := Nat) [5, 6, 7, 8, 12, 13, 14, 15, 16, 17, 18, 19, 20, 21, 22, 23, 24, 25, 26, 27, 28, 29, 30, 31, 32, 33, 34] (fun i => [(11, .int .i64 i)])
    (fun i => updH (updH (updH (fun _ => none) (3, 1000) (.arr (mirL n get sx sy sz' rx ry rz i).length 11 (fun j => mirR get sx sy sz' rx ry rz ((mirL n get sx sy sz' rx ry rz i).getD j 0)))) (2, 2) (.cells [.msl (3, 1000) 0 (mirL n get sx sy sz' rx ry rz i).length])) (0, L) (.raw (.loop r)))
    (fun i => i ≤ n) (fun i => n - i) 0 (Nat.zero_le _) ?_ ?_ ?_
  · simp (maxSteps := 4000000) only [go_sem, ↓op_move, ↓op_assign, ↓op_pick, ↓op_alloc, ↓op_box, ↓op_build, ↓op_buildSlice, ↓op_load, ↓op_store, ↓op_nilCheck, ↓op_bin, ↓op_un, ↓op_convert, ↓op_makeFunc, ↓op_makeSlice, ↓op_slice, ↓op_fieldAddr, ↓op_field, ↓op_indexAddr, ↓op_index, ↓op_extract, ↓op_lookup, ↓op_mapUpdate, ↓op_makeMap, ↓op_range, ↓op_next, ↓op_call, ↓op_builtin, ↓g_tt, ↓g_ff, ↓g_tf, ↓g_ft, ↓g_tnt, ↓g_tnf, ↓g_fnt, ↓g_fnf, ↓mkT_getD]
  · refine HpLe.upd (HpLe.upd (HpLe.upd HpLe.none ⟨_, ?_, ObjLe.refl _⟩) ⟨_, ?_, ObjLe.refl _⟩) ⟨_, ?_, ObjLe.refl _⟩ <;> simp [updH, mirL]
  · intro ck i hck hi
    have hk0 : ¬ ck = 0 := by omega
    have hml := mirL_len n get sx sy sz' rx ry rz i
    have hcn := hwo.cnt
    have hn63 := hw.1
    generalize hq0 : exC _ _ _ _ _ = gg
    by_cases hlt : i < n
    · have hd : decide ((i : Int) < (n : Int)) = true := by simp; omega
      obtain ⟨hg, hnm⟩ := hw.2 i hlt
      have hwi := hwo.wall i hlt
      have hmr : mirR get sx sy sz' rx ry rz i = [.int .i64 i, .int .i64 (wIx get i sx sy), .int .i64 (wIy get i sx sy), .int .i64 sz',
        .int .i64 ((atX get i sx sy rx ry).tdiv (lowG (atX get i sx sy rx ry) (atD get i sx sy rx ry))), .int .i64 ((atD get i sx sy rx ry).tdiv (lowG (atX get i sx sy rx ry) (atD get i sx sy rx ry))),
        .int .i64 ((atY get i sx sy rx ry).tdiv (lowG (atY get i sx sy rx ry) (atD get i sx sy rx ry))), .int .i64 ((atD get i sx sy rx ry).tdiv (lowG (atY get i sx sy rx ry) (atD get i sx sy rx ry))),
        .int .i64 ((atZ get i sx sy sz' rx ry rz).tdiv (lowG (atZ get i sx sy sz' rx ry rz) (atD get i sx sy rx ry))), .int .i64 ((atD get i sx sy rx ry).tdiv (lowG (atZ get i sx sy sz' rx ry rz) (atD get i sx sy rx ry))),
        .int .i64 (apartE (wIx get i sx sy) (wIy get i sx sy) sz' rx ry rz)] := rfl
      by_cases hev : evenP (cell get i 1) (cell get i 2) (cell get i 3) (cell get i 4)
      · have he : decide (evenP (cell get i 1) (cell get i 2) (cell get i 3) (cell get i 4)) = true := decide_eq_true hev
        have hev' : wEven get i := hev
        cases hrb : reflB n get i sx sy sz' rx ry rz
        · rw [← hq0]
          clear hq0
          simp (maxSteps := 4000000) only [go_sem, ↓op_move, ↓op_assign, ↓op_pick, ↓op_alloc, ↓op_box, ↓op_build, ↓op_buildSlice, ↓op_load, ↓op_store, ↓op_nilCheck, ↓op_bin, ↓op_un, ↓op_convert, ↓op_makeFunc, ↓op_makeSlice, ↓op_slice, ↓op_fieldAddr, ↓op_field, ↓op_indexAddr, ↓op_index, ↓op_extract, ↓op_lookup, ↓op_mapUpdate, ↓op_makeMap, ↓op_range, ↓op_next, ↓op_call, ↓op_builtin, ↓g_tt, ↓g_ff, ↓g_tf, ↓g_ft, ↓g_tnt, ↓g_tnf, ↓g_fnt, ↓g_fnf, ↓mkT_getD, hd, hg, hp, hk0, he, hrb, Int.toNat_natCast, zero12, Bool.false_eq_true, if_false]
          have hno := mirL_no (n := n) (get := get) (sx := sx) (sy := sy) (sz := sz') (rx := rx) (ry := ry) (rz := rz) (k := i) (fun h => by have := reflB_true h.2; rw [hrb] at this; exact absurd this (by decide))
          refine ⟨⟨by omega, by omega⟩, hwi, ⟨hw, hwo, ⟨by omega, by omega⟩, hs, hr, hev'⟩, inK_of (by omega) (by omega), i + 1, hlt, by omega, rfl, ?_⟩
          rw [hno]
          exact (((((HpLe.refl _).more (by simp [updH])).more (by simp [updH])).more (by simp [updH])).more (by simp [updH]))
        · rw [← hq0]
          clear hq0
          simp (maxSteps := 4000000) only [go_sem, ↓op_move, ↓op_assign, ↓op_pick, ↓op_alloc, ↓op_box, ↓op_build, ↓op_buildSlice, ↓op_load, ↓op_store, ↓op_nilCheck, ↓op_bin, ↓op_un, ↓op_convert, ↓op_makeFunc, ↓op_makeSlice, ↓op_slice, ↓op_fieldAddr, ↓op_field, ↓op_indexAddr, ↓op_index, ↓op_extract, ↓op_lookup, ↓op_mapUpdate, ↓op_makeMap, ↓op_range, ↓op_next, ↓op_call, ↓op_builtin, ↓g_tt, ↓g_ff, ↓g_tf, ↓g_ft, ↓g_tnt, ↓g_tnf, ↓g_fnt, ↓g_fnf, ↓mkT_getD, hd, hg, hp, hk0, he, hrb, Int.toNat_natCast, hmr, if_true]
          have hrp : reflP n get i sx sy sz' rx ry rz := Classical.byContradiction fun q => by have := reflB_false q; rw [hrb] at this; exact absurd this (by decide)
          have hyes := mirL_yes (n := n) (get := get) (sx := sx) (sy := sy) (sz := sz') (rx := rx) (ry := ry) (rz := rz) (k := i) ⟨hev', hrp⟩
          refine ⟨⟨by omega, by omega⟩, hwi, ⟨hw, hwo, ⟨by omega, by omega⟩, hs, hr, hev'⟩, ?_⟩
          refine YieldT.of rfl (r := r) (by simp [updH]) e4 (by rw [e1]; rfl) e6 (by rw [e2]; exact hd1) (by rw [e3]; exact hd2) hm ?_
          intro kb
          simp (maxSteps := 4000000) only [e1, e2, e3, go_sem, ↓op_move, ↓op_assign, ↓op_pick, ↓op_alloc, ↓op_box, ↓op_build, ↓op_buildSlice, ↓op_load, ↓op_store, ↓op_nilCheck, ↓op_bin, ↓op_un, ↓op_convert, ↓op_makeFunc, ↓op_makeSlice, ↓op_slice, ↓op_fieldAddr, ↓op_field, ↓op_indexAddr, ↓op_index, ↓op_extract, ↓op_lookup, ↓op_mapUpdate, ↓op_makeMap, ↓op_range, ↓op_next, ↓op_call, ↓op_builtin, ↓g_tt, ↓g_ff, ↓g_tf, ↓g_ft, ↓g_tnt, ↓g_tnf, ↓g_fnt, ↓g_fnf, ↓mkT_getD, hk0, hp]
          refine ⟨⟨by omega, by omega, row_ok rfl ones11⟩, inK_of (by omega) (by omega), i + 1, hlt, by omega, rfl, ?_⟩
          rw [hyes]
          simp only [List.length_append, List.length_singleton]
          refine HpLe.upd (HpLe.upd (HpLe.upd HpLe.none ⟨_, ?_, objLe_arr fun j hj => snocN (f := fun j => mirR get sx sy sz' rx ry rz ((mirL n get sx sy sz' rx ry rz i)[j]?.getD 0)) (f' := fun j => mirR get sx sy sz' rx ry rz ((mirL n get sx sy sz' rx ry rz i ++ [i])[j]?.getD 0)) rfl ((congrArg (mirR get sx sy sz' rx ry rz) (by simp)).trans hmr) (fun k hk => congrArg (mirR get sx sy sz' rx ry rz) (by simp [List.getElem?_append_left hk])) hj⟩) ⟨_, ?_, ObjLe.refl _⟩) ⟨_, updH_same _ _ _, ?_⟩
          · simp (maxSteps := 4000000) only [go_sem, ↓op_move, ↓op_assign, ↓op_pick, ↓op_alloc, ↓op_box, ↓op_build, ↓op_buildSlice, ↓op_load, ↓op_store, ↓op_nilCheck, ↓op_bin, ↓op_un, ↓op_convert, ↓op_makeFunc, ↓op_makeSlice, ↓op_slice, ↓op_fieldAddr, ↓op_field, ↓op_indexAddr, ↓op_index, ↓op_extract, ↓op_lookup, ↓op_mapUpdate, ↓op_makeMap, ↓op_range, ↓op_next, ↓op_call, ↓op_builtin, ↓g_tt, ↓g_ff, ↓g_tf, ↓g_ft, ↓g_tnt, ↓g_tnf, ↓g_fnt, ↓g_fnf, ↓mkT_getD, hk0]
          · simp (maxSteps := 4000000) only [go_sem, ↓op_move, ↓op_assign, ↓op_pick, ↓op_alloc, ↓op_box, ↓op_build, ↓op_buildSlice, ↓op_load, ↓op_store, ↓op_nilCheck, ↓op_bin, ↓op_un, ↓op_convert, ↓op_makeFunc, ↓op_makeSlice, ↓op_slice, ↓op_fieldAddr, ↓op_field, ↓op_indexAddr, ↓op_index, ↓op_extract, ↓op_lookup, ↓op_mapUpdate, ↓op_makeMap, ↓op_range, ↓op_next, ↓op_call, ↓op_builtin, ↓g_tt, ↓g_ff, ↓g_tf, ↓g_ft, ↓g_tnt, ↓g_tnf, ↓g_fnt, ↓g_fnf, ↓mkT_getD, hk0]
          · first | (rw [loop_eta rfl rfl rfl e4 e5]; exact ObjLe.refl _) | (rw [loop_eta e1 e2 e3 e4 e5]; exact ObjLe.refl _)
      · have he : decide (evenP (cell get i 1) (cell get i 2) (cell get i 3) (cell get i 4)) = false := decide_eq_false hev
        have hno := mirL_no (n := n) (get := get) (sx := sx) (sy := sy) (sz := sz') (rx := rx) (ry := ry) (rz := rz) (k := i) (fun h => hev h.1)
        rw [← hq0]
        clear hq0
        simp (maxSteps := 4000000) only [go_sem, ↓op_move, ↓op_assign, ↓op_pick, ↓op_alloc, ↓op_box, ↓op_build, ↓op_buildSlice, ↓op_load, ↓op_store, ↓op_nilCheck, ↓op_bin, ↓op_un, ↓op_convert, ↓op_makeFunc, ↓op_makeSlice, ↓op_slice, ↓op_fieldAddr, ↓op_field, ↓op_indexAddr, ↓op_index, ↓op_extract, ↓op_lookup, ↓op_mapUpdate, ↓op_makeMap, ↓op_range, ↓op_next, ↓op_call, ↓op_builtin, ↓g_tt, ↓g_ff, ↓g_tf, ↓g_ft, ↓g_tnt, ↓g_tnf, ↓g_fnt, ↓g_fnf, ↓mkT_getD, hd, hg, hp, hk0, he]
        refine ⟨⟨by omega, by omega⟩, hwi, inK_of (by omega) (by omega), by omega, i + 1, hlt, by omega, rfl, ?_⟩
        rw [hno]
        exact HpLe.drop2 (by simp [updH])
    · have hd : decide ((i : Int) < (n : Int)) = false := by simp; omega
      rw [← hq0]
      clear hq0
      simp (maxSteps := 4000000) only [go_sem, ↓op_move, ↓op_assign, ↓op_pick, ↓op_alloc, ↓op_box, ↓op_build, ↓op_buildSlice, ↓op_load, ↓op_store, ↓op_nilCheck, ↓op_bin, ↓op_un, ↓op_convert, ↓op_makeFunc, ↓op_makeSlice, ↓op_slice, ↓op_fieldAddr, ↓op_field, ↓op_indexAddr, ↓op_index, ↓op_extract, ↓op_lookup, ↓op_mapUpdate, ↓op_makeMap, ↓op_range, ↓op_next, ↓op_call, ↓op_builtin, ↓g_tt, ↓g_ff, ↓g_tf, ↓g_ft, ↓g_tnt, ↓g_tnf, ↓g_fnt, ↓g_fnf, ↓mkT_getD, hd, e4, e5]
      obtain rfl : i = n := by omega
      rw [if_pos (by omega)]
      refine VEnt.sl fun j hj => ?_
      rw [Nat.zero_add]
      exact frzRow_pu fun v hv => by
        simp only [mirR, List.mem_cons, List.not_mem_nil, or_false] at hv
        rcases hv with rfl | rfl | rfl | rfl | rfl | rfl | rfl | rfl | rfl | rfl | rfl <;> exact .int _ _

theorem sColl_ok : Holds Proofs.Tryz.prog G0 31 (collectC 53) := by
  refine Holds.of_exC D31 Proofs.Tryz.func31 rfl foll (by kernel_rfl) (tab [(52, appSeqC 53)]) (tab_ok ⟨sApp_ok, trivial⟩) G0_ok fun k0 rl args hpu hpre => ?_
  unfold collectC at hpre ⊢
  split at hpre
  rotate_left
  · exact hpre.elim
  rename_i g n sz get sx sy sz' rx ry rz
  obtain ⟨rfl, rfl, hw, hwo, hs, hr⟩ := hpre
  have hp := hw.pu
  simp only [Proofs.Tryz.f31]
  simp (maxSteps := 4000000) only [go_sem, ↓op_move, ↓op_assign, ↓op_pick, ↓op_alloc, ↓op_box, ↓op_build, ↓op_buildSlice, ↓op_load, ↓op_store, ↓op_nilCheck, ↓op_bin, ↓op_un, ↓op_convert, ↓op_makeFunc, ↓op_makeSlice, ↓op_slice, ↓op_fieldAddr, ↓op_field, ↓op_indexAddr, ↓op_index, ↓op_extract, ↓op_lookup, ↓op_mapUpdate, ↓op_makeMap, ↓op_range, ↓op_next, ↓op_call, ↓op_builtin, ↓g_tt, ↓g_ff, ↓g_tf, ↓g_ft, ↓g_tnt, ↓g_tnf, ↓g_fnt, ↓g_fnf, ↓mkT_getD, hp]
  exact ⟨⟨⟨hw, hwo, hs, hr⟩, mirPu⟩, VEnt.refl _⟩

theorem tMirs_ok : Holds Proofs.Tryz.prog G0 9 mirrorsC := by
  refine Holds.of_exC D9 Proofs.Tryz.func9 rfl foll (by kernel_rfl) (tab [(28, firstC), (29, wallsOkC), (30, spotC), (31, collectC 53), (32, mirItC 53), (iceKey 4, iceC), (iceKey 5, iceC)]) (tab_ok ⟨tFirst_ok, tWalls_ok, tSpot_ok, sColl_ok, tMir_ok, ice_holds, ice_holds, trivial⟩) G0_ok fun k0 rl args hpu hpre => ?_
  unfold mirrorsC at hpre ⊢
  split at hpre
  rotate_left
  · exact hpre.elim
  rename_i n sz get sx sy sz' rx ry rz
  obtain ⟨rfl, hw, hwo, hs, hr⟩ := hpre
  have hp := hw.pu
  have h1 : wallsE n get = 0 := wallsE_zero.2 hwo
  have h2 : spotE sx sy sz' = 0 := spotE_zero.2 hs
  have h3 : spotE rx ry rz = 0 := spotE_zero.2 hr
  have h4 : firstL [0, 0, 0] = 0 := rfl
  simp only [Proofs.Tryz.f9]
  simp (maxSteps := 4000000) only [go_sem, ↓op_move, ↓op_assign, ↓op_pick, ↓op_alloc, ↓op_box, ↓op_build, ↓op_buildSlice, ↓op_load, ↓op_store, ↓op_nilCheck, ↓op_bin, ↓op_un, ↓op_convert, ↓op_makeFunc, ↓op_makeSlice, ↓op_slice, ↓op_fieldAddr, ↓op_field, ↓op_indexAddr, ↓op_index, ↓op_extract, ↓op_lookup, ↓op_mapUpdate, ↓op_makeMap, ↓op_range, ↓op_next, ↓op_call, ↓op_builtin, ↓g_tt, ↓g_ff, ↓g_tf, ↓g_ft, ↓g_tnt, ↓g_tnf, ↓g_fnt, ↓g_fnf, ↓mkT_getD, hp, h1, h2, h3, h4]
  exact ⟨⟨hw, hwo⟩, hw, ⟨⟨hw, hwo, hs, hr⟩, mirPu⟩, VEnt.refl _⟩
end Go.Fly.Tryz
end
