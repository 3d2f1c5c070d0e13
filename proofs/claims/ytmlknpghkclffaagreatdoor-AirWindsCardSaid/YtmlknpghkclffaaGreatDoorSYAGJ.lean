/- The ground, at valid impedances. -/
import Derived.Test.YtmlknpghkclffaaGreatDoorSYAGF
import Derived.Test.YtmlknpghkclffaaGreatDoorAR
set_option linter.unusedSimpArgs false
set_option linter.unusedVariables false
set_option maxRecDepth 100000
set_option maxHeartbeats 2000000
namespace Go.Fly.Tryz
open Go

theorem vs1 {k : K} {v : V} {vs : Array Value} (h : ArgsR k [v] vs) : ∃ v0, vs = #[v0] ∧ R k v v0 := by
  obtain ⟨hs, hv⟩ := h
  have : vs.size = 1 := hs
  match vs, this with
  | ⟨[x]⟩, _ => exact ⟨x, rfl, hv 0 _ rfl⟩

theorem gNan_ok : Holds Proofs.Tryz.prog G0 174 isNanC := by
  refine Holds.of_exC D174 Proofs.Tryz.func174 rfl foll (by kernel_rfl) (tab []) (tab_ok trivial) G0_ok fun k0 rl args hpu hpre => ?_
  unfold isNanC at hpre ⊢
  split at hpre
  rotate_left
  · exact hpre.elim
  rename_i a
  simp only [Proofs.Tryz.f174]
  rw [enter_mkT (Nat.le_of_ble_eq_true rfl)]
  simp (maxSteps := 4000000) only [go_sem, ↓op_move, ↓op_assign, ↓op_pick, ↓op_alloc, ↓op_box, ↓op_build, ↓op_buildSlice, ↓op_load, ↓op_store, ↓op_nilCheck, ↓op_bin, ↓op_un, ↓op_convert, ↓op_makeFunc, ↓op_makeSlice, ↓op_slice, ↓op_fieldAddr, ↓op_field, ↓op_indexAddr, ↓op_index, ↓op_extract, ↓op_lookup, ↓op_mapUpdate, ↓op_makeMap, ↓op_range, ↓op_next, ↓op_call, ↓op_builtin, ↓g_tt, ↓g_ff, ↓g_tf, ↓g_ft, ↓g_tnt, ↓g_tnf, ↓g_fnt, ↓g_fnf, ↓mkT_getD, fltCmpV, Option.map_some]
  exact VEnt.of_eq rfl

theorem gAbs_ok : Holds Proofs.Tryz.prog G0 189 fabsC := by
  refine Holds.of_exC D189 Proofs.Tryz.func189 rfl foll (by kernel_rfl) (tab []) (tab_ok trivial) G0_ok fun k0 rl args hpu hpre => ?_
  unfold fabsC at hpre ⊢
  split at hpre
  rotate_left
  · exact hpre.elim
  rename_i a
  simp only [Proofs.Tryz.f189]
  rw [enter_mkT (Nat.le_of_ble_eq_true rfl)]
  simp (maxSteps := 4000000) only [go_sem, ↓op_move, ↓op_assign, ↓op_pick, ↓op_alloc, ↓op_box, ↓op_build, ↓op_buildSlice, ↓op_load, ↓op_store, ↓op_nilCheck, ↓op_bin, ↓op_un, ↓op_convert, ↓op_makeFunc, ↓op_makeSlice, ↓op_slice, ↓op_fieldAddr, ↓op_field, ↓op_indexAddr, ↓op_index, ↓op_extract, ↓op_lookup, ↓op_mapUpdate, ↓op_makeMap, ↓op_range, ↓op_next, ↓op_call, ↓op_builtin, ↓g_tt, ↓g_ff, ↓g_tf, ↓g_ft, ↓g_tnt, ↓g_tnf, ↓g_fnt, ↓g_fnf, ↓mkT_getD]
  refine .inr ⟨.int .u64 a, fun k vs h _ _ => ?_, ?_⟩
  · obtain ⟨v0, rfl, h0⟩ := vs1 h
    have h1 : v0 = .float .f64 a := h0.flt_inv
    subst h1
    refine ⟨.int .u64 a, ?_, .int _ _⟩
    rw [run_callFunc_extern (fn := Proofs.Tryz.f203) (e := Extern.MathFloatBits.float64bits) rfl (by decide) rfl (by rfl) (by rfl)]
    rfl
  · simp (maxSteps := 4000000) only [go_sem, ↓op_move, ↓op_assign, ↓op_pick, ↓op_alloc, ↓op_box, ↓op_build, ↓op_buildSlice, ↓op_load, ↓op_store, ↓op_nilCheck, ↓op_bin, ↓op_un, ↓op_convert, ↓op_makeFunc, ↓op_makeSlice, ↓op_slice, ↓op_fieldAddr, ↓op_field, ↓op_indexAddr, ↓op_index, ↓op_extract, ↓op_lookup, ↓op_mapUpdate, ↓op_makeMap, ↓op_range, ↓op_next, ↓op_call, ↓op_builtin, ↓g_tt, ↓g_ff, ↓g_tf, ↓g_ft, ↓g_tnt, ↓g_tnf, ↓g_fnt, ↓g_fnf, ↓mkT_getD]
    refine .inr ⟨.flt .f64 (absF a), fun k vs h _ _ => ?_, ?_⟩
    · obtain ⟨v0, rfl, h0⟩ := vs1 h
      have h1 := h0.int_inv
      subst h1
      refine ⟨.float .f64 (absF a), ?_, .flt _ _⟩
      rw [run_callFunc_extern (fn := Proofs.Tryz.f202) (e := Extern.MathFloatBits.float64frombits) rfl (by decide) rfl (by rfl) (by rfl)]
      rfl
    · simp (maxSteps := 4000000) only [go_sem, ↓op_move, ↓op_assign, ↓op_pick, ↓op_alloc, ↓op_box, ↓op_build, ↓op_buildSlice, ↓op_load, ↓op_store, ↓op_nilCheck, ↓op_bin, ↓op_un, ↓op_convert, ↓op_makeFunc, ↓op_makeSlice, ↓op_slice, ↓op_fieldAddr, ↓op_field, ↓op_indexAddr, ↓op_index, ↓op_extract, ↓op_lookup, ↓op_mapUpdate, ↓op_makeMap, ↓op_range, ↓op_next, ↓op_call, ↓op_builtin, ↓g_tt, ↓g_ff, ↓g_tf, ↓g_ft, ↓g_tnt, ↓g_tnf, ↓g_fnt, ↓g_fnf, ↓mkT_getD]
      exact VEnt.of_eq rfl

theorem gInf_ok : Holds Proofs.Tryz.prog G0 175 isInfC := by
  refine Holds.of_exC D175 Proofs.Tryz.func175 rfl foll (by kernel_rfl) (tab [(189, fabsC)]) (tab_ok ⟨gAbs_ok, trivial⟩) G0_ok fun k0 rl args hpu hpre => ?_
  unfold isInfC at hpre ⊢
  split at hpre
  rotate_left
  · exact hpre.elim
  rename_i a z
  obtain rfl := hpre
  simp only [Proofs.Tryz.f175]
  rw [enter_mkT (Nat.le_of_ble_eq_true rfl)]
  simp (maxSteps := 4000000) only [go_sem, ↓op_move, ↓op_assign, ↓op_pick, ↓op_alloc, ↓op_box, ↓op_build, ↓op_buildSlice, ↓op_load, ↓op_store, ↓op_nilCheck, ↓op_bin, ↓op_un, ↓op_convert, ↓op_makeFunc, ↓op_makeSlice, ↓op_slice, ↓op_fieldAddr, ↓op_field, ↓op_indexAddr, ↓op_index, ↓op_extract, ↓op_lookup, ↓op_mapUpdate, ↓op_makeMap, ↓op_range, ↓op_next, ↓op_call, ↓op_builtin, ↓g_tt, ↓g_ff, ↓g_tf, ↓g_ft, ↓g_tnt, ↓g_tnf, ↓g_fnt, ↓g_fnf, ↓mkT_getD, fltCmpV, Option.map_some]
  exact VEnt.of_eq rfl

theorem gTrunc_ok : Holds Proofs.Tryz.prog G0 176 truncC := by
  refine Holds.of_exC D176 Proofs.Tryz.func176 rfl foll (by kernel_rfl) (tab []) (tab_ok trivial) G0_ok fun k0 rl args hpu hpre => ?_
  unfold truncC at hpre ⊢
  split at hpre
  rotate_left
  · exact hpre.elim
  rename_i a
  simp only [Proofs.Tryz.f176]
  rw [enter_mkT (Nat.le_of_ble_eq_true rfl)]
  simp (maxSteps := 4000000) only [go_sem, ↓op_move, ↓op_assign, ↓op_pick, ↓op_alloc, ↓op_box, ↓op_build, ↓op_buildSlice, ↓op_load, ↓op_store, ↓op_nilCheck, ↓op_bin, ↓op_un, ↓op_convert, ↓op_makeFunc, ↓op_makeSlice, ↓op_slice, ↓op_fieldAddr, ↓op_field, ↓op_indexAddr, ↓op_index, ↓op_extract, ↓op_lookup, ↓op_mapUpdate, ↓op_makeMap, ↓op_range, ↓op_next, ↓op_call, ↓op_builtin, ↓g_tt, ↓g_ff, ↓g_tf, ↓g_ft, ↓g_tnt, ↓g_tnf, ↓g_fnt, ↓g_fnf, ↓mkT_getD]
  refine .inr ⟨.flt .f64 (truncF a), fun k vs h _ _ => ?_, ?_⟩
  · obtain ⟨v0, rfl, h0⟩ := vs1 h
    have h1 : v0 = .float .f64 a := h0.flt_inv
    subst h1
    refine ⟨.float .f64 (truncF a), ?_, .flt _ _⟩
    rw [run_callFunc_extern (fn := Proofs.Tryz.f190) (e := Extern.MathFloor.toIntegral "math.archTrunc" .zero) rfl (by decide) rfl (by rfl) (by rfl)]
    have e : Extern.MathFloor.toIntegral "math.archTrunc" .zero #[Value.float .f64 a] = pure (Value.float .f64 (truncF a)) := by
      rw [show Extern.MathFloor.toIntegral "math.archTrunc" .zero #[Value.float .f64 a] = (match FloatKind.f64.decode a with
        | .nan s t => if FloatKind.f64.format.quiet t = t then pure (Value.float .f64 a) else do
          let kept ← choose (.extern "math.Floor,Ceil,Trunc,RoundToEven.signallingNaN kept" 2)
          pure (Value.float .f64 (if kept == 1 then a else FloatKind.f64.encode (.nan s (FloatKind.f64.format.quiet t))))
        | d => pure (Value.float .f64 (FloatKind.f64.encode (d.integral .zero)))) from rfl]
      unfold truncF
      cases q : FloatKind.f64.decode a with
      | nan s t => exact absurd q (hpre s t)
      | infinity s => rfl
      | number s m e => rfl
    rw [e]
    rfl
  · simp (maxSteps := 4000000) only [go_sem, ↓op_move, ↓op_assign, ↓op_pick, ↓op_alloc, ↓op_box, ↓op_build, ↓op_buildSlice, ↓op_load, ↓op_store, ↓op_nilCheck, ↓op_bin, ↓op_un, ↓op_convert, ↓op_makeFunc, ↓op_makeSlice, ↓op_slice, ↓op_fieldAddr, ↓op_field, ↓op_indexAddr, ↓op_index, ↓op_extract, ↓op_lookup, ↓op_mapUpdate, ↓op_makeMap, ↓op_range, ↓op_next, ↓op_call, ↓op_builtin, ↓g_tt, ↓g_ff, ↓g_tf, ↓g_ft, ↓g_tnt, ↓g_tnf, ↓g_fnt, ↓g_fnf, ↓mkT_getD]
    exact VEnt.of_eq rfl

theorem gWild_ok : Holds Proofs.Tryz.prog G0 153 wildC := by
  refine Holds.of_exC D153 Proofs.Tryz.func153 rfl foll (by kernel_rfl) (tab [(174, isNanC), (175, isInfC)]) (tab_ok ⟨gNan_ok, gInf_ok, trivial⟩) G0_ok fun k0 rl args hpu hpre => ?_
  unfold wildC at hpre ⊢
  split at hpre
  rotate_left
  · exact hpre.elim
  rename_i a
  simp only [Proofs.Tryz.f153]
  rw [enter_mkT (Nat.le_of_ble_eq_true rfl)]
  simp (maxSteps := 4000000) only [go_sem, ↓op_move, ↓op_assign, ↓op_pick, ↓op_alloc, ↓op_box, ↓op_build, ↓op_buildSlice, ↓op_load, ↓op_store, ↓op_nilCheck, ↓op_bin, ↓op_un, ↓op_convert, ↓op_makeFunc, ↓op_makeSlice, ↓op_slice, ↓op_fieldAddr, ↓op_field, ↓op_indexAddr, ↓op_index, ↓op_extract, ↓op_lookup, ↓op_mapUpdate, ↓op_makeMap, ↓op_range, ↓op_next, ↓op_call, ↓op_builtin, ↓g_tt, ↓g_ff, ↓g_tf, ↓g_ft, ↓g_tnt, ↓g_tnf, ↓g_fnt, ↓g_fnf, ↓mkT_getD]
  refine ⟨fun h => VEnt.of_eq ?_, fun h => VEnt.of_eq ?_⟩ <;> simp [wildF, h]

theorem gWhole_ok : Holds Proofs.Tryz.prog G0 154 wholC := by
  refine Holds.of_exC D154 Proofs.Tryz.func154 rfl foll (by kernel_rfl) (tab [(86, whenC), (176, truncC)]) (tab_ok ⟨aWhen_ok, gTrunc_ok, trivial⟩) G0_ok fun k0 rl args hpu hpre => ?_
  unfold wholC at hpre ⊢
  split at hpre
  rotate_left
  · exact hpre.elim
  rename_i a lo hi
  simp only [Proofs.Tryz.f154]
  rw [enter_mkT (Nat.le_of_ble_eq_true rfl)]
  simp (maxSteps := 4000000) only [go_sem, ↓op_move, ↓op_assign, ↓op_pick, ↓op_alloc, ↓op_box, ↓op_build, ↓op_buildSlice, ↓op_load, ↓op_store, ↓op_nilCheck, ↓op_bin, ↓op_un, ↓op_convert, ↓op_makeFunc, ↓op_makeSlice, ↓op_slice, ↓op_fieldAddr, ↓op_field, ↓op_indexAddr, ↓op_index, ↓op_extract, ↓op_lookup, ↓op_mapUpdate, ↓op_makeMap, ↓op_range, ↓op_next, ↓op_call, ↓op_builtin, ↓g_tt, ↓g_ff, ↓g_tf, ↓g_ft, ↓g_tnt, ↓g_tnf, ↓g_fnt, ↓g_fnf, ↓mkT_getD, fltCmpV, Option.map_some]
  refine ⟨fun h1 => ⟨fun h2 => ⟨hpre, VEnt.of_eq ?_⟩, fun h2 => VEnt.of_eq ?_⟩, fun h1 => VEnt.of_eq ?_⟩ <;> simp [wholeE, *]

theorem gImp_ok : Holds Proofs.Tryz.prog G0 128 impC := by
  refine Holds.of_exC D128 Proofs.Tryz.func128 rfl foll (by kernel_rfl) (tab [(83, firstC), (86, whenC), (153, wildC), (154, wholC)]) (tab_ok ⟨aFirst_ok, aWhen_ok, gWild_ok, gWhole_ok, trivial⟩) G0_ok fun k0 rl args hpu hpre => ?_
  unfold impC at hpre ⊢
  split at hpre
  rotate_left
  · exact hpre.elim
  rename_i a b
  obtain ⟨h1, h2⟩ := hpre
  simp only [Proofs.Tryz.f128]
  rw [enter_mkT (Nat.le_of_ble_eq_true rfl)]
  simp (maxSteps := 4000000) only [go_sem, ↓op_move, ↓op_assign, ↓op_pick, ↓op_alloc, ↓op_box, ↓op_build, ↓op_buildSlice, ↓op_load, ↓op_store, ↓op_nilCheck, ↓op_bin, ↓op_un, ↓op_convert, ↓op_makeFunc, ↓op_makeSlice, ↓op_slice, ↓op_fieldAddr, ↓op_field, ↓op_indexAddr, ↓op_index, ↓op_extract, ↓op_lookup, ↓op_mapUpdate, ↓op_makeMap, ↓op_range, ↓op_next, ↓op_call, ↓op_builtin, ↓g_tt, ↓g_ff, ↓g_tf, ↓g_ft, ↓g_tnt, ↓g_tnf, ↓g_fnt, ↓g_fnf, ↓mkT_getD]
  refine ⟨fun h => ⟨h1, h2, VEnt.of_eq ?_⟩, fun h => ⟨h1, h2, VEnt.of_eq ?_⟩⟩ <;> simp [impE, h]

theorem gShr_ok : Holds Proofs.Tryz.prog G0 129 shareC := by
  refine Holds.of_exC D129 Proofs.Tryz.func129 rfl foll (by kernel_rfl) (tab [(126, divC)]) (tab_ok ⟨gDiv_ok, trivial⟩) G0_ok fun k0 rl args hpu hpre => ?_
  unfold shareC at hpre ⊢
  split at hpre
  rotate_left
  · exact hpre.elim
  rename_i a b
  obtain ⟨re, im, h⟩ := hpre
  have h1 : reI a = re := by unfold reI; rw [h.ra]; rfl
  have h2 : reI b = im := by unfold reI; rw [h.ib]; rfl
  have hb := imp_bd h.r0 h.r1 h.i0 h.i1
  have hr0 := h.r0
  have hp := shBy_pos (im := im) h.r0
  have hra := h.ra
  have hib := h.ib
  rw [h1, h2]
  have hi0 := h.i0
  have hi1 := h.i1
  have hr1 := h.r1
  have hden : (re + 1) * (re + 1) + im * im = facDen re im := rfl
  have hnum : (re - 1) * (re - 1) + im * im = shNum re im := rfl
  have hby : (shNum re im).toNat.gcd (facDen re im).toNat = shBy re im := rfl
  simp only [Proofs.Tryz.f129]
  rw [enter_mkT (Nat.le_of_ble_eq_true rfl)]
  simp (maxSteps := 4000000) only [go_sem, ↓op_move, ↓op_assign, ↓op_pick, ↓op_alloc, ↓op_box, ↓op_build, ↓op_buildSlice, ↓op_load, ↓op_store, ↓op_nilCheck, ↓op_bin, ↓op_un, ↓op_convert, ↓op_makeFunc, ↓op_makeSlice, ↓op_slice, ↓op_fieldAddr, ↓op_field, ↓op_indexAddr, ↓op_index, ↓op_extract, ↓op_lookup, ↓op_mapUpdate, ↓op_makeMap, ↓op_range, ↓op_next, ↓op_call, ↓op_builtin, ↓g_tt, ↓g_ff, ↓g_tf, ↓g_ft, ↓g_tnt, ↓g_tnf, ↓g_fnt, ↓g_fnf, ↓mkT_getD, hra, hib, Option.isSome_some, Option.getD_some, hden, hnum, hby]
  rw [← hden, ← hnum]
  have q1 := tdiv_in (x := (re - 1) * (re - 1) + im * im) (m := 2002001) (shBy re im) (by omega) (by omega)
  have q2 := tdiv_in (x := (re + 1) * (re + 1) + im * im) (m := 2002001) (shBy re im) (by omega) (by omega)
  refine ⟨inK_of (by omega) (by omega), inK_of (by omega) (by omega), inK_of (by omega) (by omega), inK_of (by omega) (by omega), inK_of (by omega) (by omega), inK_of (by omega) (by omega), inK_of (by omega) (by omega), inK_of (by omega) (by omega), inK_of (by omega) (by omega), inK_of (by omega) (by omega), inK_of (by omega) (by omega), inK_of (by omega) (by omega),
    ⟨by omega, by omega, by omega, by omega⟩, ⟨by omega, inK_of (by omega) (by omega)⟩, ⟨by omega, inK_of (by omega) (by omega)⟩, VEnt.refl _⟩

theorem gShare_ok : Holds Proofs.Tryz.prog G0 68 share3C := by
  refine Holds.of_exC D68 Proofs.Tryz.func68 rfl foll (by kernel_rfl) (tab [(128, impC), (129, shareC)]) (tab_ok ⟨gImp_ok, gShr_ok, trivial⟩) G0_ok fun k0 rl args hpu hpre => ?_
  unfold share3C at hpre ⊢
  split at hpre
  rotate_left
  · exact hpre.elim
  rename_i a b
  obtain ⟨re, im, h⟩ := hpre
  have hc := h.chk
  have ha := h.na
  have hb := h.nb
  have hd : decide ((0 : Int) = 0) = true := rfl
  simp only [Proofs.Tryz.f68]
  rw [enter_mkT (Nat.le_of_ble_eq_true rfl)]
  simp (maxSteps := 4000000) only [go_sem, ↓op_move, ↓op_assign, ↓op_pick, ↓op_alloc, ↓op_box, ↓op_build, ↓op_buildSlice, ↓op_load, ↓op_store, ↓op_nilCheck, ↓op_bin, ↓op_un, ↓op_convert, ↓op_makeFunc, ↓op_makeSlice, ↓op_slice, ↓op_fieldAddr, ↓op_field, ↓op_indexAddr, ↓op_index, ↓op_extract, ↓op_lookup, ↓op_mapUpdate, ↓op_makeMap, ↓op_range, ↓op_next, ↓op_call, ↓op_builtin, ↓g_tt, ↓g_ff, ↓g_tf, ↓g_ft, ↓g_tnt, ↓g_tnf, ↓g_fnt, ↓g_fnf, ↓mkT_getD, hc, hd]
  exact ⟨⟨ha, hb⟩, ⟨re, im, h⟩, VEnt.refl _⟩

theorem gFac_ok : Holds Proofs.Tryz.prog G0 67 fac3C := by
  refine Holds.of_exC D67 Proofs.Tryz.func67 rfl foll (by kernel_rfl) (tab [(126, divC), (128, impC)]) (tab_ok ⟨gDiv_ok, gImp_ok, trivial⟩) G0_ok fun k0 rl args hpu hpre => ?_
  unfold fac3C at hpre ⊢
  split at hpre
  rotate_left
  · exact hpre.elim
  rename_i a b
  obtain ⟨re, im, h⟩ := hpre
  have h1 : reI a = re := by unfold reI; rw [h.ra]; rfl
  have h2 : reI b = im := by unfold reI; rw [h.ib]; rfl
  have hb := imp_bd h.r0 h.r1 h.i0 h.i1
  have hc := h.chk
  have ha := h.na
  have hnb := h.nb
  have hra := h.ra
  have hib := h.ib
  obtain ⟨s, t, u, e1, e2, p, q, e3, e4, e5⟩ := h.sub
  have hd : decide ((0 : Int) = 0) = true := rfl
  rw [h1, h2]
  simp only [Proofs.Tryz.f67]
  rw [enter_mkT (Nat.le_of_ble_eq_true rfl)]
  simp (maxSteps := 4000000) only [go_sem, ↓op_move, ↓op_assign, ↓op_pick, ↓op_alloc, ↓op_box, ↓op_build, ↓op_buildSlice, ↓op_load, ↓op_store, ↓op_nilCheck, ↓op_bin, ↓op_un, ↓op_convert, ↓op_makeFunc, ↓op_makeSlice, ↓op_slice, ↓op_fieldAddr, ↓op_field, ↓op_indexAddr, ↓op_index, ↓op_extract, ↓op_lookup, ↓op_mapUpdate, ↓op_makeMap, ↓op_range, ↓op_next, ↓op_call, ↓op_builtin, ↓g_tt, ↓g_ff, ↓g_tf, ↓g_ft, ↓g_tnt, ↓g_tnf, ↓g_fnt, ↓g_fnf, ↓mkT_getD, hc, hd, hra, hib, Option.isSome_some, Option.getD_some, e1, e2, e3, e4, e5]
  have hr0 := h.r0
  have hr1 := h.r1
  have hi0 := h.i0
  have hi1 := h.i1
  have hp := facBy_pos (im := im) h.r0
  have hden : (re + 1) * (re + 1) + im * im = facDen re im := rfl
  have htop : re * re - 1 + im * im = facTop re im := rfl
  have hby : (((max (facTop re im) (-facTop re im)).toNat.gcd (max (2 * im) (-(2 * im))).toNat).gcd (facDen re im).toNat) = facBy re im := rfl
  rw [hden, htop, hby]
  have t1 : -2002001 ≤ facTop re im ∧ facTop re im ≤ 2002001 := by rw [← htop]; omega
  have t2 : 0 ≤ facDen re im ∧ facDen re im ≤ 2002001 := by rw [← hden]; omega
  have q1 := tdiv_in (facBy re im) t1.1 t1.2
  have q2 := tdiv_in (x := 2 * im) (m := 2002001) (facBy re im) (by omega) (by omega)
  have q3 := tdiv_in (x := facDen re im) (m := 2002001) (facBy re im) (by omega) (by omega)
  have q4 := gcd_in (a := (max (facTop re im) (-facTop re im)).toNat) (b := (max (2 * im) (-(2 * im))).toNat) (m := 2002001) (by omega) (by omega)
  exact ⟨⟨ha, hnb⟩, inK_of (by omega) (by omega), inK_of (by omega) (by omega), inK_of (by omega) (by omega), inK_of (by omega) (by omega), inK_of (by omega) (by omega), inK_of (by omega) (by omega), inK_of (by omega) (by omega), inK_of (by omega) (by omega), inK_of (by omega) (by omega), inK_of (by omega) (by omega),
    ⟨by omega, by omega, by omega, by omega⟩, ⟨by omega, by omega, by omega, by omega⟩, ⟨by omega, inK_of (by omega) (by omega)⟩, ⟨by omega, inK_of (by omega) (by omega)⟩, ⟨by omega, inK_of (by omega) (by omega)⟩, VEnt.refl _⟩
end Go.Fly.Tryz
