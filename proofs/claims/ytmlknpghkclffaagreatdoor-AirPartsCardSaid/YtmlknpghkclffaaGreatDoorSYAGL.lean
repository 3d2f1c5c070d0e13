/- Part of a proof: an evaluator of the model's code by abstract values, and plain laws for it. No conditions. -/
import Derived.Test.YtmlknpghkclffaaGreatDoorSYAGF
import Derived.Test.YtmlknpghkclffaaGreatDoorAR
set_option linter.unusedSimpArgs false
set_option linter.unusedVariables false
section
/- The ground, at valid impedances. -/
set_option maxRecDepth 100000
set_option maxHeartbeats 2000000
namespace Go.Fly.Tryz
open Go

theorem vs1 {k : K} {v : V} {vs : Array Value} (h : ArgsR k [v] vs) : ∃ v0, vs = #[v0] ∧ R k v v0 := by
  obtain ⟨hs, hv⟩ := h
  have : vs.size = 1 := hs
  match vs, this with
  | ⟨[x]⟩, _ => exact ⟨x, rfl, hv 0 _ rfl⟩

theorem gNan_ok : Holds Proofs.Tryz.prog G0 174 isNanC := by
  refine Holds.of_exC D174 Proofs.Tryz.func174 rfl foll (by kernel_rfl) (tab []) (tab_ok trivial) G0_ok fun k0 rl args hpu hpre => ?_
  unfold isNanC at hpre ⊢
  split at hpre
  rotate_left
  · exact hpre.elim
  rename_i a
  simp only [Proofs.Tryz.f174]
  rw [enter_mkT (Nat.le_of_ble_eq_true rfl)]
  simp (maxSteps := 4000000) only [go_sem, ↓op_move, ↓op_assign, ↓op_pick, ↓op_alloc, ↓op_box, ↓op_build, ↓op_buildSlice, ↓op_load, ↓op_store, ↓op_nilCheck, ↓op_bin, ↓op_un, ↓op_convert, ↓op_makeFunc, ↓op_makeSlice, ↓op_slice, ↓op_fieldAddr, ↓op_field, ↓op_indexAddr, ↓op_index, ↓op_extract, ↓op_lookup, ↓op_mapUpdate, ↓op_makeMap, ↓op_range, ↓op_next, ↓op_call, ↓op_builtin, ↓g_tt, ↓g_ff, ↓g_tf, ↓g_ft, ↓g_tnt, ↓g_tnf, ↓g_fnt, ↓g_fnf, ↓mkT_getD, fltCmpV, Option.map_some]
  exact VEnt.of_eq rfl

theorem gAbs_ok : Holds Proofs.Tryz.prog G0 189 fabsC := by
  refine Holds.of_exC D189 Proofs.Tryz.func189 rfl foll (by kernel_rfl) (tab []) (tab_ok trivial) G0_ok fun k0 rl args hpu hpre => ?_
  unfold fabsC at hpre ⊢
  split at hpre
  rotate_left
  · exact hpre.elim
  rename_i a
  simp only [Proofs.Tryz.f189]
  rw [enter_mkT (Nat.le_of_ble_eq_true rfl)]
  simp (maxSteps := 4000000) only [go_sem, ↓op_move, ↓op_assign, ↓op_pick, ↓op_alloc, ↓op_box, ↓op_build, ↓op_buildSlice, ↓op_load, ↓op_store, ↓op_nilCheck, ↓op_bin, ↓op_un, ↓op_convert, ↓op_makeFunc, ↓op_makeSlice, ↓op_slice, ↓op_fieldAddr, ↓op_field, ↓op_indexAddr, ↓op_index, ↓op_extract, ↓op_lookup, ↓op_mapUpdate, ↓op_makeMap, ↓op_range, ↓op_next, ↓op_call, ↓op_builtin, ↓g_tt, ↓g_ff, ↓g_tf, ↓g_ft, ↓g_tnt, ↓g_tnf, ↓g_fnt, ↓g_fnf, ↓mkT_getD]
  refine .inr ⟨.int .u64 a, fun k vs h _ _ => ?_, ?_⟩
  · obtain ⟨v0, rfl, h0⟩ := vs1 h
    have h1 : v0 = .float .f64 a := h0.flt_inv
    subst h1
    refine ⟨.int .u64 a, ?_, .int _ _⟩
    rw [run_callFunc_extern (fn := Proofs.Tryz.f203) (e := Extern.MathFloatBits.float64bits) rfl (by decide) rfl (by rfl) (by rfl)]
    rfl
  · simp (maxSteps := 4000000) only [go_sem, ↓op_move, ↓op_assign, ↓op_pick, ↓op_alloc, ↓op_box, ↓op_build, ↓op_buildSlice, ↓op_load, ↓op_store, ↓op_nilCheck, ↓op_bin, ↓op_un, ↓op_convert, ↓op_makeFunc, ↓op_makeSlice, ↓op_slice, ↓op_fieldAddr, ↓op_field, ↓op_indexAddr, ↓op_index, ↓op_extract, ↓op_lookup, ↓op_mapUpdate, ↓op_makeMap, ↓op_range, ↓op_next, ↓op_call, ↓op_builtin, ↓g_tt, ↓g_ff, ↓g_tf, ↓g_ft, ↓g_tnt, ↓g_tnf, ↓g_fnt, ↓g_fnf, ↓mkT_getD]
    refine .inr ⟨.flt .f64 (absF a), fun k vs h _ _ => ?_, ?_⟩
    · obtain ⟨v0, rfl, h0⟩ := vs1 h
      have h1 := h0.int_inv
      subst h1
      refine ⟨.float .f64 (absF a), ?_, .flt _ _⟩
      rw [run_callFunc_extern (fn := Proofs.Tryz.f202) (e := Extern.MathFloatBits.float64frombits) rfl (by decide) rfl (by rfl) (by rfl)]
      rfl
    · simp (maxSteps := 4000000) only [go_sem, ↓op_move, ↓op_assign, ↓op_pick, ↓op_alloc, ↓op_box, ↓op_build, ↓op_buildSlice, ↓op_load, ↓op_store, ↓op_nilCheck, ↓op_bin, ↓op_un, ↓op_convert, ↓op_makeFunc, ↓op_makeSlice, ↓op_slice, ↓op_fieldAddr, ↓op_field, ↓op_indexAddr, ↓op_index, ↓op_extract, ↓op_lookup, ↓op_mapUpdate, ↓op_makeMap, ↓op_range, ↓op_next, ↓op_call, ↓op_builtin, ↓g_tt, ↓g_ff, ↓g_tf, ↓g_ft, ↓g_tnt, ↓g_tnf, ↓g_fnt, ↓g_fnf, ↓mkT_getD]
      exact VEnt.of_eq rfl

theorem gInf_ok : Holds Proofs.Tryz.prog G0 175 isInfC := by
  refine Holds.of_exC D175 Proofs.Tryz.func175 rfl foll (by kernel_rfl) (tab [(189, fabsC)]) (tab_ok ⟨gAbs_ok, trivial⟩) G0_ok fun k0 rl args hpu hpre => ?_
  unfold isInfC at hpre ⊢
  split at hpre
  rotate_left
  · exact hpre.elim
  rename_i a z
  obtain rfl := hpre
  simp only [Proofs.Tryz.f175]
  rw [enter_mkT (Nat.le_of_ble_eq_true rfl)]
  simp (maxSteps := 4000000) only [go_sem, ↓op_move, ↓op_assign, ↓op_pick, ↓op_alloc, ↓op_box, ↓op_build, ↓op_buildSlice, ↓op_load, ↓op_store, ↓op_nilCheck, ↓op_bin, ↓op_un, ↓op_convert, ↓op_makeFunc, ↓op_makeSlice, ↓op_slice, ↓op_fieldAddr, ↓op_field, ↓op_indexAddr, ↓op_index, ↓op_extract, ↓op_lookup, ↓op_mapUpdate, ↓op_makeMap, ↓op_range, ↓op_next, ↓op_call, ↓op_builtin, ↓g_tt, ↓g_ff, ↓g_tf, ↓g_ft, ↓g_tnt, ↓g_tnf, ↓g_fnt, ↓g_fnf, ↓mkT_getD, fltCmpV, Option.map_some]
  exact VEnt.of_eq rfl

theorem gTrunc_ok : Holds Proofs.Tryz.prog G0 176 truncC := by
  refine Holds.of_exC D176 Proofs.Tryz.func176 rfl foll (by kernel_rfl) (tab []) (tab_ok trivial) G0_ok fun k0 rl args hpu hpre => ?_
  unfold truncC at hpre ⊢
  split at hpre
  rotate_left
  · exact hpre.elim
  rename_i a
  simp only [Proofs.Tryz.f176]
  rw [enter_mkT (Nat.le_of_ble_eq_true rfl)]
  simp (maxSteps := 4000000) only [go_sem, ↓op_move, ↓op_assign, ↓op_pick, ↓op_alloc, ↓op_box, ↓op_build, ↓op_buildSlice, ↓op_load, ↓op_store, ↓op_nilCheck, ↓op_bin, ↓op_un, ↓op_convert, ↓op_makeFunc, ↓op_makeSlice, ↓op_slice, ↓op_fieldAddr, ↓op_field, ↓op_indexAddr, ↓op_index, ↓op_extract, ↓op_lookup, ↓op_mapUpdate, ↓op_makeMap, ↓op_range, ↓op_next, ↓op_call, ↓op_builtin, ↓g_tt, ↓g_ff, ↓g_tf, ↓g_ft, ↓g_tnt, ↓g_tnf, ↓g_fnt, ↓g_fnf, ↓mkT_getD]
  refine .inr ⟨.flt .f64 (truncF a), fun k vs h _ _ => ?_, ?_⟩
  · obtain ⟨v0, rfl, h0⟩ := vs1 h
    have h1 : v0 = .float .f64 a := h0.flt_inv
    subst h1
    refine ⟨.float .f64 (truncF a), ?_, .flt _ _⟩
    rw [run_callFunc_extern (fn := Proofs.Tryz.f190) (e := Extern.MathFloor.toIntegral "math.archTrunc" .zero) rfl (by decide) rfl (by rfl) (by rfl)]
    have e : Extern.MathFloor.toIntegral "math.archTrunc" .zero #[Value.float .f64 a] = pure (Value.float .f64 (truncF a)) := by
      rw [show Extern.MathFloor.toIntegral "math.archTrunc" .zero #[Value.float .f64 a] = (match FloatKind.f64.decode a with
        | .nan s t => if FloatKind.f64.format.quiet t = t then pure (Value.float .f64 a) else do
          let kept ← choose (.extern "math.Floor,Ceil,Trunc,RoundToEven.signallingNaN kept" 2)
          pure (Value.float .f64 (if kept == 1 then a else FloatKind.f64.encode (.nan s (FloatKind.f64.format.quiet t))))
        | d => pure (Value.float .f64 (FloatKind.f64.encode (d.integral .zero)))) from rfl]
      unfold truncF
      cases q : FloatKind.f64.decode a with
      | nan s t => exact absurd q (hpre s t)
      | infinity s => rfl
      | number s m e => rfl
    rw [e]
    rfl
  · simp (maxSteps := 4000000) only [go_sem, ↓op_move, ↓op_assign, ↓op_pick, ↓op_alloc, ↓op_box, ↓op_build, ↓op_buildSlice, ↓op_load, ↓op_store, ↓op_nilCheck, ↓op_bin, ↓op_un, ↓op_convert, ↓op_makeFunc, ↓op_makeSlice, ↓op_slice, ↓op_fieldAddr, ↓op_field, ↓op_indexAddr, ↓op_index, ↓op_extract, ↓op_lookup, ↓op_mapUpdate, ↓op_makeMap, ↓op_range, ↓op_next, ↓op_call, ↓op_builtin, ↓g_tt, ↓g_ff, ↓g_tf, ↓g_ft, ↓g_tnt, ↓g_tnf, ↓g_fnt, ↓g_fnf, ↓mkT_getD]
    exact VEnt.of_eq rfl

theorem gWild_ok : Holds Proofs.Tryz.prog G0 153 wildC := by
  refine Holds.of_exC D153 Proofs.Tryz.func153 rfl foll (by kernel_rfl) (tab [(174, isNanC), (175, isInfC)]) (tab_ok ⟨gNan_ok, gInf_ok, trivial⟩) G0_ok fun k0 rl args hpu hpre => ?_
  unfold wildC at hpre ⊢
  split at hpre
  rotate_left
  · exact hpre.elim
  rename_i a
  simp only [Proofs.Tryz.f153]
  rw [enter_mkT (Nat.le_of_ble_eq_true rfl)]
  simp (maxSteps := 4000000) only [go_sem, ↓op_move, ↓op_assign, ↓op_pick, ↓op_alloc, ↓op_box, ↓op_build, ↓op_buildSlice, ↓op_load, ↓op_store, ↓op_nilCheck, ↓op_bin, ↓op_un, ↓op_convert, ↓op_makeFunc, ↓op_makeSlice, ↓op_slice, ↓op_fieldAddr, ↓op_field, ↓op_indexAddr, ↓op_index, ↓op_extract, ↓op_lookup, ↓op_mapUpdate, ↓op_makeMap, ↓op_range, ↓op_next, ↓op_call, ↓op_builtin, ↓g_tt, ↓g_ff, ↓g_tf, ↓g_ft, ↓g_tnt, ↓g_tnf, ↓g_fnt, ↓g_fnf, ↓mkT_getD]
  refine ⟨fun h => VEnt.of_eq ?_, fun h => VEnt.of_eq ?_⟩ <;> simp [wildF, h]

theorem gWhole_ok : Holds Proofs.Tryz.prog G0 154 wholC := by
  refine Holds.of_exC D154 Proofs.Tryz.func154 rfl foll (by kernel_rfl) (tab [(86, whenC), (176, truncC)]) (tab_ok ⟨aWhen_ok, gTrunc_ok, trivial⟩) G0_ok fun k0 rl args hpu hpre => ?_
  unfold wholC at hpre ⊢
  split at hpre
  rotate_left
  · exact hpre.elim
  rename_i a lo hi
  simp only [Proofs.Tryz.f154]
  rw [enter_mkT (Nat.le_of_ble_eq_true rfl)]
  simp (maxSteps := 4000000) only [go_sem, ↓op_move, ↓op_assign, ↓op_pick, ↓op_alloc, ↓op_box, ↓op_build, ↓op_buildSlice, ↓op_load, ↓op_store, ↓op_nilCheck, ↓op_bin, ↓op_un, ↓op_convert, ↓op_makeFunc, ↓op_makeSlice, ↓op_slice, ↓op_fieldAddr, ↓op_field, ↓op_indexAddr, ↓op_index, ↓op_extract, ↓op_lookup, ↓op_mapUpdate, ↓op_makeMap, ↓op_range, ↓op_next, ↓op_call, ↓op_builtin, ↓g_tt, ↓g_ff, ↓g_tf, ↓g_ft, ↓g_tnt, ↓g_tnf, ↓g_fnt, ↓g_fnf, ↓mkT_getD, fltCmpV, Option.map_some]
  refine ⟨fun h1 => ⟨fun h2 => ⟨hpre, VEnt.of_eq ?_⟩, fun h2 => VEnt.of_eq ?_⟩, fun h1 => VEnt.of_eq ?_⟩ <;> simp [wholeE, *]

theorem gImp_ok : Holds Proofs.Tryz.prog G0 128 impC := by
  refine Holds.of_exC D128 Proofs.Tryz.func128 rfl foll (by kernel_rfl) (tab [(83, firstC), (86, whenC), (153, wildC), (154, wholC)]) (tab_ok ⟨aFirst_ok, aWhen_ok, gWild_ok, gWhole_ok, trivial⟩) G0_ok fun k0 rl args hpu hpre => ?_
  unfold impC at hpre ⊢
  split at hpre
  rotate_left
  · exact hpre.elim
  rename_i a b
  obtain ⟨h1, h2⟩ := hpre
  simp only [Proofs.Tryz.f128]
  rw [enter_mkT (Nat.le_of_ble_eq_true rfl)]
  simp (maxSteps := 4000000) only [go_sem, ↓op_move, ↓op_assign, ↓op_pick, ↓op_alloc, ↓op_box, ↓op_build, ↓op_buildSlice, ↓op_load, ↓op_store, ↓op_nilCheck, ↓op_bin, ↓op_un, ↓op_convert, ↓op_makeFunc, ↓op_makeSlice, ↓op_slice, ↓op_fieldAddr, ↓op_field, ↓op_indexAddr, ↓op_index, ↓op_extract, ↓op_lookup, ↓op_mapUpdate, ↓op_makeMap, ↓op_range, ↓op_next, ↓op_call, ↓op_builtin, ↓g_tt, ↓g_ff, ↓g_tf, ↓g_ft, ↓g_tnt, ↓g_tnf, ↓g_fnt, ↓g_fnf, ↓mkT_getD]
  refine ⟨fun h => ⟨h1, h2, VEnt.of_eq ?_⟩, fun h => ⟨h1, h2, VEnt.of_eq ?_⟩⟩ <;> simp [impE, h]

theorem gShr_ok : Holds Proofs.Tryz.prog G0 129 shareC := by
  refine Holds.of_exC D129 Proofs.Tryz.func129 rfl foll (by kernel_rfl) (tab [(126, divC)]) (tab_ok ⟨gDiv_ok, trivial⟩) G0_ok fun k0 rl args hpu hpre => ?_
  unfold shareC at hpre ⊢
  split at hpre
  rotate_left
  · exact hpre.elim
  rename_i a b
  obtain ⟨re, im, h⟩ := hpre
  have h1 : reI a = re := by unfold reI; rw [h.ra]; rfl
  have h2 : reI b = im := by unfold reI; rw [h.ib]; rfl
  have hb := imp_bd h.r0 h.r1 h.i0 h.i1
  have hr0 := h.r0
  have hp := shBy_pos (im := im) h.r0
  have hra := h.ra
  have hib := h.ib
  rw [h1, h2]
  have hi0 := h.i0
  have hi1 := h.i1
  have hr1 := h.r1
  have hden : (re + 1) * (re + 1) + im * im = facDen re im := rfl
  have hnum : (re - 1) * (re - 1) + im * im = shNum re im := rfl
  have hby : (shNum re im).toNat.gcd (facDen re im).toNat = shBy re im := rfl
  simp only [Proofs.Tryz.f129]
  rw [enter_mkT (Nat.le_of_ble_eq_true rfl)]
  simp (maxSteps := 4000000) only [go_sem, ↓op_move, ↓op_assign, ↓op_pick, ↓op_alloc, ↓op_box, ↓op_build, ↓op_buildSlice, ↓op_load, ↓op_store, ↓op_nilCheck, ↓op_bin, ↓op_un, ↓op_convert, ↓op_makeFunc, ↓op_makeSlice, ↓op_slice, ↓op_fieldAddr, ↓op_field, ↓op_indexAddr, ↓op_index, ↓op_extract, ↓op_lookup, ↓op_mapUpdate, ↓op_makeMap, ↓op_range, ↓op_next, ↓op_call, ↓op_builtin, ↓g_tt, ↓g_ff, ↓g_tf, ↓g_ft, ↓g_tnt, ↓g_tnf, ↓g_fnt, ↓g_fnf, ↓mkT_getD, hra, hib, Option.isSome_some, Option.getD_some, hden, hnum, hby]
  rw [← hden, ← hnum]
  have q1 := tdiv_in (x := (re - 1) * (re - 1) + im * im) (m := 2002001) (shBy re im) (by omega) (by omega)
  have q2 := tdiv_in (x := (re + 1) * (re + 1) + im * im) (m := 2002001) (shBy re im) (by omega) (by omega)
  refine ⟨inK_of (by omega) (by omega), inK_of (by omega) (by omega), inK_of (by omega) (by omega), inK_of (by omega) (by omega), inK_of (by omega) (by omega), inK_of (by omega) (by omega), inK_of (by omega) (by omega), inK_of (by omega) (by omega), inK_of (by omega) (by omega), inK_of (by omega) (by omega), inK_of (by omega) (by omega), inK_of (by omega) (by omega),
    ⟨by omega, by omega, by omega, by omega⟩, ⟨by omega, inK_of (by omega) (by omega)⟩, ⟨by omega, inK_of (by omega) (by omega)⟩, VEnt.refl _⟩

theorem gShare_ok : Holds Proofs.Tryz.prog G0 68 share3C := by
  refine Holds.of_exC D68 Proofs.Tryz.func68 rfl foll (by kernel_rfl) (tab [(128, impC), (129, shareC)]) (tab_ok ⟨gImp_ok, gShr_ok, trivial⟩) G0_ok fun k0 rl args hpu hpre => ?_
  unfold share3C at hpre ⊢
  split at hpre
  rotate_left
  · exact hpre.elim
  rename_i a b
  obtain ⟨re, im, h⟩ := hpre
  have hc := h.chk
  have ha := h.na
  have hb := h.nb
  have hd : decide ((0 : Int) = 0) = true := rfl
  simp only [Proofs.Tryz.f68]
  rw [enter_mkT (Nat.le_of_ble_eq_true rfl)]
  simp (maxSteps := 4000000) only [go_sem, ↓op_move, ↓op_assign, ↓op_pick, ↓op_alloc, ↓op_box, ↓op_build, ↓op_buildSlice, ↓op_load, ↓op_store, ↓op_nilCheck, ↓op_bin, ↓op_un, ↓op_convert, ↓op_makeFunc, ↓op_makeSlice, ↓op_slice, ↓op_fieldAddr, ↓op_field, ↓op_indexAddr, ↓op_index, ↓op_extract, ↓op_lookup, ↓op_mapUpdate, ↓op_makeMap, ↓op_range, ↓op_next, ↓op_call, ↓op_builtin, ↓g_tt, ↓g_ff, ↓g_tf, ↓g_ft, ↓g_tnt, ↓g_tnf, ↓g_fnt, ↓g_fnf, ↓mkT_getD, hc, hd]
  exact ⟨⟨ha, hb⟩, ⟨re, im, h⟩, VEnt.refl _⟩

theorem gFac_ok : Holds Proofs.Tryz.prog G0 67 fac3C := by
  refine Holds.of_exC D67 Proofs.Tryz.func67 rfl foll (by kernel_rfl) (tab [(126, divC), (128, impC)]) (tab_ok ⟨gDiv_ok, gImp_ok, trivial⟩) G0_ok fun k0 rl args hpu hpre => ?_
  unfold fac3C at hpre ⊢
  split at hpre
  rotate_left
  · exact hpre.elim
  rename_i a b
  obtain ⟨re, im, h⟩ := hpre
  have h1 : reI a = re := by unfold reI; rw [h.ra]; rfl
  have h2 : reI b = im := by unfold reI; rw [h.ib]; rfl
  have hb := imp_bd h.r0 h.r1 h.i0 h.i1
  have hc := h.chk
  have ha := h.na
  have hnb := h.nb
  have hra := h.ra
  have hib := h.ib
  obtain ⟨s, t, u, e1, e2, p, q, e3, e4, e5⟩ := h.sub
  have hd : decide ((0 : Int) = 0) = true := rfl
  rw [h1, h2]
  simp only [Proofs.Tryz.f67]
  rw [enter_mkT (Nat.le_of_ble_eq_true rfl)]
  simp (maxSteps := 4000000) only [go_sem, ↓op_move, ↓op_assign, ↓op_pick, ↓op_alloc, ↓op_box, ↓op_build, ↓op_buildSlice, ↓op_load, ↓op_store, ↓op_nilCheck, ↓op_bin, ↓op_un, ↓op_convert, ↓op_makeFunc, ↓op_makeSlice, ↓op_slice, ↓op_fieldAddr, ↓op_field, ↓op_indexAddr, ↓op_index, ↓op_extract, ↓op_lookup, ↓op_mapUpdate, ↓op_makeMap, ↓op_range, ↓op_next, ↓op_call, ↓op_builtin, ↓g_tt, ↓g_ff, ↓g_tf, ↓g_ft, ↓g_tnt, ↓g_tnf, ↓g_fnt, ↓g_fnf, ↓mkT_getD, hc, hd, hra, hib, Option.isSome_some, Option.getD_some, e1, e2, e3, e4, e5]
  have hr0 := h.r0
  have hr1 := h.r1
  have hi0 := h.i0
  have hi1 := h.i1
  have hp := facBy_pos (im := im) h.r0
  have hden : (re + 1) * (re + 1) + im * im = facDen re im := rfl
  have htop : re * re - 1 + im * im = facTop re im := rfl
  have hby : (((max (facTop re im) (-facTop re im)).toNat.gcd (max (2 * im) (-(2 * im))).toNat).gcd (facDen re im).toNat) = facBy re im := rfl
  rw [hden, htop, hby]
  have t1 : -2002001 ≤ facTop re im ∧ facTop re im ≤ 2002001 := by rw [← htop]; omega
  have t2 : 0 ≤ facDen re im ∧ facDen re im ≤ 2002001 := by rw [← hden]; omega
  have q1 := tdiv_in (facBy re im) t1.1 t1.2
  have q2 := tdiv_in (x := 2 * im) (m := 2002001) (facBy re im) (by omega) (by omega)
  have q3 := tdiv_in (x := facDen re im) (m := 2002001) (facBy re im) (by omega) (by omega)
  have q4 := gcd_in (a := (max (facTop re im) (-facTop re im)).toNat) (b := (max (2 * im) (-(2 * im))).toNat) (m := 2002001) (by omega) (by omega)
  exact ⟨⟨ha, hnb⟩, inK_of (by omega) (by omega), inK_of (by omega) (by omega), inK_of (by omega) (by omega), inK_of (by omega) (by omega), inK_of (by omega) (by omega), inK_of (by omega) (by omega), inK_of (by omega) (by omega), inK_of (by omega) (by omega), inK_of (by omega) (by omega), inK_of (by omega) (by omega),
    ⟨by omega, by omega, by omega, by omega⟩, ⟨by omega, by omega, by omega, by omega⟩, ⟨by omega, inK_of (by omega) (by omega)⟩, ⟨by omega, inK_of (by omega) (by omega)⟩, ⟨by omega, inK_of (by omega) (by omega)⟩, VEnt.refl _⟩
end Go.Fly.Tryz
end
section
/- What arrives in total, at a valid impedance. -/
set_option maxRecDepth 100000
set_option maxHeartbeats 2000000
namespace Go.Fly.Tryz
open Go

theorem aDn2_ok : Holds Proofs.Tryz.prog G0 169 divDn2C := by
  refine Holds.of_exC D169 Proofs.Tryz.func169 rfl foll (by kernel_rfl) (tab []) (tab_ok trivial) G0_ok fun k0 rl args hpu hpre => ?_
  unfold divDn2C at hpre ⊢
  split at hpre
  rotate_left
  · exact hpre.elim
  rename_i a b
  obtain ⟨h1, h2, h3, h4⟩ := hpre
  simp only [Proofs.Tryz.f169]
  rw [enter_mkT (Nat.le_of_ble_eq_true rfl)]
  simp (maxSteps := 4000000) only [go_sem, ↓op_move, ↓op_assign, ↓op_pick, ↓op_alloc, ↓op_box, ↓op_build, ↓op_buildSlice, ↓op_load, ↓op_store, ↓op_nilCheck, ↓op_bin, ↓op_un, ↓op_convert, ↓op_makeFunc, ↓op_makeSlice, ↓op_slice, ↓op_fieldAddr, ↓op_field, ↓op_indexAddr, ↓op_index, ↓op_extract, ↓op_lookup, ↓op_mapUpdate, ↓op_makeMap, ↓op_range, ↓op_next, ↓op_call, ↓op_builtin, ↓g_tt, ↓g_ff, ↓g_tf, ↓g_ft, ↓g_tnt, ↓g_tnf, ↓g_fnt, ↓g_fnf, ↓mkT_getD]
  rw [Int.tdiv_eq_ediv_of_nonneg h1]
  have := Int.ediv_nonneg h1 (show 0 ≤ b by omega)
  have := Int.ediv_le_self b h1
  exact ⟨⟨by omega, inK_of (by omega) (by omega)⟩, VEnt.of_eq rfl⟩

theorem aUp2_ok : Holds Proofs.Tryz.prog G0 170 divUp2C := by
  refine Holds.of_exC D170 Proofs.Tryz.func170 rfl foll (by kernel_rfl) (tab []) (tab_ok trivial) G0_ok fun k0 rl args hpu hpre => ?_
  unfold divUp2C at hpre ⊢
  split at hpre
  rotate_left
  · exact hpre.elim
  rename_i a b
  obtain ⟨h1, h2, h3, h4⟩ := hpre
  simp only [Proofs.Tryz.f170]
  rw [enter_mkT (Nat.le_of_ble_eq_true rfl)]
  simp (maxSteps := 4000000) only [go_sem, ↓op_move, ↓op_assign, ↓op_pick, ↓op_alloc, ↓op_box, ↓op_build, ↓op_buildSlice, ↓op_load, ↓op_store, ↓op_nilCheck, ↓op_bin, ↓op_un, ↓op_convert, ↓op_makeFunc, ↓op_makeSlice, ↓op_slice, ↓op_fieldAddr, ↓op_field, ↓op_indexAddr, ↓op_index, ↓op_extract, ↓op_lookup, ↓op_mapUpdate, ↓op_makeMap, ↓op_range, ↓op_next, ↓op_call, ↓op_builtin, ↓g_tt, ↓g_ff, ↓g_tf, ↓g_ft, ↓g_tnt, ↓g_tnf, ↓g_fnt, ↓g_fnf, ↓mkT_getD]
  rw [Int.tdiv_eq_ediv_of_nonneg (show 0 ≤ a + b - 1 by omega)]
  have := Int.ediv_nonneg (show 0 ≤ a + b - 1 by omega) (show 0 ≤ b by omega)
  have := Int.ediv_le_self b (show 0 ≤ a + b - 1 by omega)
  exact ⟨inK_of (by omega) (by omega), inK_of (by omega) (by omega), ⟨by omega, inK_of (by omega) (by omega)⟩, VEnt.of_eq rfl⟩

theorem gArrG_ok : Holds Proofs.Tryz.prog G0 110 arrGC := by
  refine Holds.of_exC D110 Proofs.Tryz.func110 rfl foll (by kernel_rfl) (tab [(148, roundsC 169 170), (169, divDn2C), (170, divUp2C), (iceKey 5, iceC)]) (tab_ok ⟨aRounds_ok, aDn2_ok, aUp2_ok, ice_holds, trivial⟩) G0_ok fun k0 rl args hpu hpre => ?_
  unfold arrGC at hpre ⊢
  split at hpre
  rotate_left
  · exact hpre.elim
  rename_i n sz p n' sz' en num den
  obtain ⟨rfl, ⟨hn, hp⟩, rfl, rfl, ⟨hn', he⟩, hn6, hnum, hden, hb⟩ := hpre
  have hpp := (show IsIv n' p from ⟨hn, hp⟩).pu
  have hpe := (show IsInts n' en from ⟨hn', he⟩).pu
  simp only [Proofs.Tryz.f110]
  rw [enter_mkT (Nat.le_of_ble_eq_true rfl)]
  simp (maxSteps := 4000000) only [go_sem, ↓op_move, ↓op_assign, ↓op_pick, ↓op_alloc, ↓op_box, ↓op_build, ↓op_buildSlice, ↓op_load, ↓op_store, ↓op_nilCheck, ↓op_bin, ↓op_un, ↓op_convert, ↓op_makeFunc, ↓op_makeSlice, ↓op_slice, ↓op_fieldAddr, ↓op_field, ↓op_indexAddr, ↓op_index, ↓op_extract, ↓op_lookup, ↓op_mapUpdate, ↓op_makeMap, ↓op_range, ↓op_next, ↓op_call, ↓op_builtin, ↓g_tt, ↓g_ff, ↓g_tf, ↓g_ft, ↓g_tnt, ↓g_tnf, ↓g_fnt, ↓g_fnf, ↓mkT_getD, hpp, hpe]
  refine RestT.ents (Ents.nilArr (d := 9) (l := (5, 1000)) 2 (fun _ => []) rfl rfl rfl) ?_
  simp only [go_sem, ↓op_move, ↓op_assign, ↓op_pick, ↓op_alloc, ↓op_box, ↓op_build, ↓op_buildSlice, ↓op_load, ↓op_store, ↓op_nilCheck, ↓op_bin, ↓op_un, ↓op_convert, ↓op_makeFunc, ↓op_makeSlice, ↓op_slice, ↓op_fieldAddr, ↓op_field, ↓op_indexAddr, ↓op_index, ↓op_extract, ↓op_lookup, ↓op_mapUpdate, ↓op_makeMap, ↓op_range, ↓op_next, ↓op_call, ↓op_builtin, ↓g_tt, ↓g_ff, ↓g_tf, ↓g_ft, ↓g_tnt, ↓g_tnf, ↓g_fnt, ↓g_fnf, ↓mkT_getD]
  refine RestT.loopF (β := Nat) [(9, 11), (18, 59)] (fun i => [(9, .msl (5, 1000) 0 i), (18, .int .i64 i)]) (fun i => updH (updH (updH (fun _ => none) (3, 7) (.cells [.fn (.func 169) [] []])) (3, 8) (.cells [.fn (.func 170) [] []])) (5, 1000) (.arr i 2 (agG en p num den)))
    (fun i => i ≤ n') (fun i => n' - i) 0 (Nat.zero_le _) ?_ ?_ ?_
  · simp (maxSteps := 4000000) only [go_sem, ↓op_move, ↓op_assign, ↓op_pick, ↓op_alloc, ↓op_box, ↓op_build, ↓op_buildSlice, ↓op_load, ↓op_store, ↓op_nilCheck, ↓op_bin, ↓op_un, ↓op_convert, ↓op_makeFunc, ↓op_makeSlice, ↓op_slice, ↓op_fieldAddr, ↓op_field, ↓op_indexAddr, ↓op_index, ↓op_extract, ↓op_lookup, ↓op_mapUpdate, ↓op_makeMap, ↓op_range, ↓op_next, ↓op_call, ↓op_builtin, ↓g_tt, ↓g_ff, ↓g_tf, ↓g_ft, ↓g_tnt, ↓g_tnf, ↓g_fnt, ↓g_fnf, ↓mkT_getD]
    try exact rfl
  · refine HpLe.upd (HpLe.upd (HpLe.upd HpLe.none ⟨_, ?_, ObjLe.refl _⟩) ⟨_, ?_, ObjLe.refl _⟩) ⟨_, updH_same _ _ _, objLe_arr fun j hj => by omega⟩ <;> simp [updH]
  · intro ck i hck hi
    have hk0 : ¬ ck = 0 := by omega
    generalize hq0 : exC _ _ _ _ _ = gg
    by_cases hlt : i < n'
    · have hd : decide ((i : Int) < (n' : Int)) = true := by simp; omega
      have hgp := hp i hlt
      have hge := he i hlt
      obtain ⟨c1, c2, c3⟩ := hb i hlt
      have m1 := ag_bd hnum c1 c3
      have m2 := ag_bd hnum c2 c3
      rw [← hq0]
      clear hq0
      simp (maxSteps := 4000000) only [go_sem, ↓op_move, ↓op_assign, ↓op_pick, ↓op_alloc, ↓op_box, ↓op_build, ↓op_buildSlice, ↓op_load, ↓op_store, ↓op_nilCheck, ↓op_bin, ↓op_un, ↓op_convert, ↓op_makeFunc, ↓op_makeSlice, ↓op_slice, ↓op_fieldAddr, ↓op_field, ↓op_indexAddr, ↓op_index, ↓op_extract, ↓op_lookup, ↓op_mapUpdate, ↓op_makeMap, ↓op_range, ↓op_next, ↓op_call, ↓op_builtin, ↓g_tt, ↓g_ff, ↓g_tf, ↓g_ft, ↓g_tnt, ↓g_tnf, ↓g_fnt, ↓g_fnf, ↓mkT_getD, hd, hgp, hge, hpp, hpe, hk0]
      refine ⟨by omega, by omega, inK_of (by omega) (by omega), inK_of (by omega) (by omega), inK_of (by omega) (by omega), by omega, by omega, inK_of (by omega) (by omega), inK_of (by omega) (by omega), inK_of (by omega) (by omega), by omega, ⟨by omega, by omega, row_ok rfl ones2⟩, inK_of (by omega) (by omega), by omega, i + 1, hlt, by omega, ⟨rfl, rfl⟩, ?_⟩
      refine HpLe.upd (HpLe.upd (HpLe.upd HpLe.none ⟨_, ?_, ObjLe.refl _⟩) ⟨_, ?_, ObjLe.refl _⟩) ⟨_, ?_, objLe_arr fun j hj => snoc (f := agG en p num den) rfl rfl hj⟩
      · simp (maxSteps := 4000000) only [go_sem, ↓op_move, ↓op_assign, ↓op_pick, ↓op_alloc, ↓op_box, ↓op_build, ↓op_buildSlice, ↓op_load, ↓op_store, ↓op_nilCheck, ↓op_bin, ↓op_un, ↓op_convert, ↓op_makeFunc, ↓op_makeSlice, ↓op_slice, ↓op_fieldAddr, ↓op_field, ↓op_indexAddr, ↓op_index, ↓op_extract, ↓op_lookup, ↓op_mapUpdate, ↓op_makeMap, ↓op_range, ↓op_next, ↓op_call, ↓op_builtin, ↓g_tt, ↓g_ff, ↓g_tf, ↓g_ft, ↓g_tnt, ↓g_tnf, ↓g_fnt, ↓g_fnf, ↓mkT_getD, hk0]
      · simp (maxSteps := 4000000) only [go_sem, ↓op_move, ↓op_assign, ↓op_pick, ↓op_alloc, ↓op_box, ↓op_build, ↓op_buildSlice, ↓op_load, ↓op_store, ↓op_nilCheck, ↓op_bin, ↓op_un, ↓op_convert, ↓op_makeFunc, ↓op_makeSlice, ↓op_slice, ↓op_fieldAddr, ↓op_field, ↓op_indexAddr, ↓op_index, ↓op_extract, ↓op_lookup, ↓op_mapUpdate, ↓op_makeMap, ↓op_range, ↓op_next, ↓op_call, ↓op_builtin, ↓g_tt, ↓g_ff, ↓g_tf, ↓g_ft, ↓g_tnt, ↓g_tnf, ↓g_fnt, ↓g_fnf, ↓mkT_getD, hk0]
      · simp (maxSteps := 4000000) only [go_sem, ↓op_move, ↓op_assign, ↓op_pick, ↓op_alloc, ↓op_box, ↓op_build, ↓op_buildSlice, ↓op_load, ↓op_store, ↓op_nilCheck, ↓op_bin, ↓op_un, ↓op_convert, ↓op_makeFunc, ↓op_makeSlice, ↓op_slice, ↓op_fieldAddr, ↓op_field, ↓op_indexAddr, ↓op_index, ↓op_extract, ↓op_lookup, ↓op_mapUpdate, ↓op_makeMap, ↓op_range, ↓op_next, ↓op_call, ↓op_builtin, ↓g_tt, ↓g_ff, ↓g_tf, ↓g_ft, ↓g_tnt, ↓g_tnf, ↓g_fnt, ↓g_fnf, ↓mkT_getD, hk0]
        exact rfl
    · have hd : decide ((i : Int) < (n' : Int)) = false := by simp; omega
      obtain rfl : i = n' := by omega
      rw [← hq0]
      clear hq0
      simp (maxSteps := 4000000) only [go_sem, ↓op_move, ↓op_assign, ↓op_pick, ↓op_alloc, ↓op_box, ↓op_build, ↓op_buildSlice, ↓op_load, ↓op_store, ↓op_nilCheck, ↓op_bin, ↓op_un, ↓op_convert, ↓op_makeFunc, ↓op_makeSlice, ↓op_slice, ↓op_fieldAddr, ↓op_field, ↓op_indexAddr, ↓op_index, ↓op_extract, ↓op_lookup, ↓op_mapUpdate, ↓op_makeMap, ↓op_range, ↓op_next, ↓op_call, ↓op_builtin, ↓g_tt, ↓g_ff, ↓g_tf, ↓g_ft, ↓g_tnt, ↓g_tnf, ↓g_fnt, ↓g_fnf, ↓mkT_getD, hd, hpp, hpe]
      exact ⟨(5, 1000), i, 2, _, _, rfl, by rw [if_pos rfl], fun _ _ => rfl, rfl, rfl, (isIv_fn (fun i => agLo (intAt en i) (cell p i 0) num den) (fun i => agHi (intAt en i) (cell p i 1) num den) (by omega)).pu⟩

theorem gTot_ok : Holds Proofs.Tryz.prog G0 70 tot3C := by
  refine Holds.of_exC D70 Proofs.Tryz.func70 rfl foll (by kernel_rfl) (tab [(83, firstC), (97, straightC), (98, checkC), (99, steps2C), (105, passedC), (106, groundC), (109, energiesC), (110, arrGC), (128, impC), (129, shareC), (iceKey 5, iceC)]) (tab_ok ⟨aFirst_ok, aStraight_ok, aCheck_ok, gSteps_ok, aPassed_ok, gGround_ok, aEnergies_ok, gArrG_ok, gImp_ok, gShr_ok, ice_holds, trivial⟩) G0_ok fun k0 rl args hpu hpre => ?_
  unfold tot3C at hpre ⊢
  split at hpre
  rotate_left
  · exact hpre.elim
  rename_i n sz get a b c d e f x y n' sz' en
  obtain ⟨rfl, hair, rfl, hen, hn', re, im, himp⟩ := hpre
  have hp := hair.pu
  have hpe := hen.pu
  have hic := himp.chk
  have hna := himp.na
  have hnb := himp.nb
  have hx1 : ∃ re im, ImpOk x y re im := ⟨re, im, himp⟩
  by_cases hck : checkE n get a b c d e f = 0
  · obtain ⟨hae, hpath⟩ := checkE_zero.1 hck
    have hok := airE_ok hae
    obtain ⟨hg0, hiv0⟩ := hair.2 0 hok.cnt.1
    have hp0 := hiv0.pu
    by_cases hce : energiesE n' en (inN get 0 4) 1000000000 = 0
    · have hz := firstL_zero.1 hce
      have hnn : n' = inN get 0 4 := by
        have := hz (err (!decide ((n' : Int) = (inN get 0 4 : Int))) 2) (by simp)
        rw [err_zero (by decide)] at this
        simp at this
        omega
      have hb := rngs_zero.1 (hz (rngs n' en 0 1000000000) (by simp))
      have hsq := sqE_bd hpath
      have hec := ech_bd hpath
      have hpb := fun i hi => d_bd (k := i) hok hpath hi
      obtain ⟨⟨q1, q2, q3⟩, ⟨q4, q5, q6⟩, q7⟩ := id hpath
      have hqb := fun i hi => q_bd (n := n) (get := get) (sq := ech a b c d e f) (z0 := 0) (z1 := c) (y0 := 0) (y1 := f) (flat := 0) (k := i) hok ⟨hec.1, hec.2.1⟩ (by omega) (by omega) hi
      have hb8 := hok.bands
      have hcn := hok.cnt
      have hE : tot3E n get a b c d e f n' en = 0 := by unfold tot3E; rw [if_neg (by simp [hck])]; exact hce
      have hfl : decide (firstL [(0 : Int), 0] = 0) = true := rfl
      subst hnn
      simp only [Proofs.Tryz.f70]
      rw [enter_mkT (Nat.le_of_ble_eq_true rfl)]
      simp (maxSteps := 4000000) only [go_sem, ↓op_move, ↓op_assign, ↓op_pick, ↓op_alloc, ↓op_box, ↓op_build, ↓op_buildSlice, ↓op_load, ↓op_store, ↓op_nilCheck, ↓op_bin, ↓op_un, ↓op_convert, ↓op_makeFunc, ↓op_makeSlice, ↓op_slice, ↓op_fieldAddr, ↓op_field, ↓op_indexAddr, ↓op_index, ↓op_extract, ↓op_lookup, ↓op_mapUpdate, ↓op_makeMap, ↓op_range, ↓op_next, ↓op_call, ↓op_builtin, ↓g_tt, ↓g_ff, ↓g_tf, ↓g_ft, ↓g_tnt, ↓g_tnf, ↓g_fnt, ↓g_fnf, ↓mkT_getD, hp, hpe, hg0, hp0, hck, hce, hic, hfl]
      rw [orE_no hE]
      have hst := fun i => stG_bd (n := n) (get := get) (flat := c) (sq := sqE a b c d e f) (y0 := 0) (y1 := 0) ⟨hsq.1, by omega⟩ (show min c f ≤ max c f by omega) (Int.le_refl 0) i
      have hst2 := fun i => stG_bd (n := n) (get := get) (flat := 0) (sq := ech a b c d e f) (z0 := 0) (z1 := c) (y0 := 0) (y1 := f) ⟨hec.1, hec.2.1⟩ (by omega) (by omega) i
      have hi1 : reI x = re := by unfold reI; rw [himp.ra]; rfl
      have hi2 : reI y = im := by unfold reI; rw [himp.ib]; rfl
      have hsh := share_bd (re := re) (im := im) himp.r0 himp.r1 himp.i0 himp.i1
      rw [hi1, hi2]
      generalize (shNum re im).tdiv (shBy re im) = num at hsh
      generalize (facDen re im).tdiv (shBy re im) = den at hsh
      refine ⟨hair, ⟨hna, hnb⟩, by omega, ⟨hen, by omega⟩, hpath, ⟨hair, hok, ⟨hsq.1, by omega⟩, by omega, by omega, by omega, by omega, by omega⟩, ⟨hair, hok, isIv_fn _ _ hair.1, fun i hi => ?_⟩, ⟨isIv_fn _ _ (by omega), hen, by omega, fun i hi => ?_⟩,
        hpath, ⟨hair, hok, ⟨hec.1, hec.2.1⟩, by omega, by omega, by omega, by omega⟩, ⟨hair, hok, isIv_fn _ _ hair.1, fun i hi => ?_⟩, hx1, ⟨isIv_fn _ _ (by omega), hen, by omega, hsh.1, hsh.2, fun i hi => ?_⟩, by omega, ?_⟩
      · have := hst i
        omega
      · have h1 := hpb i hi
        have h2 := hb i hi
        unfold dLo dHi qLo qHi at h1
        omega
      · have := hst2 i
        omega
      · have h1 := hqb i hi
        have h2 := hb i hi
        unfold qLo qHi at h1
        omega
      · refine RestT.loopF (β := Nat) [(13, 14), (55, 80)] (fun i => [(55, .int .i64 i)]) (fun i => updH (updH (fun _ => none) (7, 43) (.arr (inN get 0 4) 2 (fun j => if j < i then totG n get a b c d e f num den en j else agG en (fun k => [.int .i64 (dLo n get a b c d e f k), .int .i64 (dHi n get a b c d e f k)]) 1 1 j)))
          (8, 53) (.arr (inN get 0 4) 2 (agG en (fun k => [.int .i64 (eLo n get a b c d e f k), .int .i64 (eHi n get a b c d e f k)]) num den)))
          (fun i => i ≤ inN get 0 4) (fun i => inN get 0 4 - i) 0 (Nat.zero_le _) ?_ ?_ ?_
        · simp (maxSteps := 4000000) only [go_sem, ↓op_move, ↓op_assign, ↓op_pick, ↓op_alloc, ↓op_box, ↓op_build, ↓op_buildSlice, ↓op_load, ↓op_store, ↓op_nilCheck, ↓op_bin, ↓op_un, ↓op_convert, ↓op_makeFunc, ↓op_makeSlice, ↓op_slice, ↓op_fieldAddr, ↓op_field, ↓op_indexAddr, ↓op_index, ↓op_extract, ↓op_lookup, ↓op_mapUpdate, ↓op_makeMap, ↓op_range, ↓op_next, ↓op_call, ↓op_builtin, ↓g_tt, ↓g_ff, ↓g_tf, ↓g_ft, ↓g_tnt, ↓g_tnf, ↓g_fnt, ↓g_fnf, ↓mkT_getD]
          try exact rfl
        · exact HpLe.upd (HpLe.upd HpLe.none ⟨_, (updH_ne (by decide)).trans (updH_same _ _ _), objLe_arr fun j hj => if_neg (Nat.not_lt_zero _)⟩) ⟨_, updH_same _ _ _, objLe_arr fun j hj => rfl⟩
        · intro ck i hck hi
          have hk0 : ¬ ck = 0 := by omega
          have hk1 : ¬ ck = 7 := by omega
          have hk2 : ¬ ck = 6 := by omega
          have hk3 : ¬ ck = 5 := by omega
          generalize hq0 : exC _ _ _ _ _ = gg
          by_cases hlt : i < inN get 0 4
          · have hd : decide ((i : Int) < (inN get 0 4 : Int)) = true := by simp; omega
            have hbe := hb i hlt
            have hb1 := hpb i hlt
            have hb2 := hqb i hlt
            have l1 := ag_bd (p := dLo n get a b c d e f i) (num := 1) ⟨by omega, by omega⟩ ⟨by omega, by omega⟩ hbe
            have l2 := ag_bd (p := dHi n get a b c d e f i) (num := 1) ⟨by omega, by omega⟩ ⟨by omega, by omega⟩ hbe
            have l3 := ag_bd (p := eLo n get a b c d e f i) hsh.1 (by unfold eLo; omega) hbe
            have l4 := ag_bd (p := eHi n get a b c d e f i) hsh.1 (by unfold eHi; omega) hbe
            have hrow : agG en (fun k => [V.int .i64 (eLo n get a b c d e f k), V.int .i64 (eHi n get a b c d e f k)]) num den i = [.int .i64 (agLo (intAt en i) (eLo n get a b c d e f i) num den), .int .i64 (agHi (intAt en i) (eHi n get a b c d e f i) num den)] := rfl
            have hrow1 : agG en (fun k => [V.int .i64 (dLo n get a b c d e f k), V.int .i64 (dHi n get a b c d e f k)]) 1 1 i = [.int .i64 (agLo (intAt en i) (dLo n get a b c d e f i) 1 1), .int .i64 (agHi (intAt en i) (dHi n get a b c d e f i) 1 1)] := rfl
            have z1 := agL_bd (d := 1) (by omega) l1.2
            have z2 := agH_bd (d := 1) (by omega) l2.2
            have z3 := agL_bd (d := den) (by omega) l3.2
            have z4 := agH_bd (d := den) (by omega) l4.2
            have hii : (i < i) = False := eq_false (Nat.lt_irrefl i)
            rw [← hq0]
            clear hq0
            simp (maxSteps := 4000000) only [go_sem, ↓op_move, ↓op_assign, ↓op_pick, ↓op_alloc, ↓op_box, ↓op_build, ↓op_buildSlice, ↓op_load, ↓op_store, ↓op_nilCheck, ↓op_bin, ↓op_un, ↓op_convert, ↓op_makeFunc, ↓op_makeSlice, ↓op_slice, ↓op_fieldAddr, ↓op_field, ↓op_indexAddr, ↓op_index, ↓op_extract, ↓op_lookup, ↓op_mapUpdate, ↓op_makeMap, ↓op_range, ↓op_next, ↓op_call, ↓op_builtin, ↓g_tt, ↓g_ff, ↓g_tf, ↓g_ft, ↓g_tnt, ↓g_tnf, ↓g_fnt, ↓g_fnf, ↓mkT_getD, hd, hp, hpe, hk0, hk1, hk2, hk3, Nat.zero_add, hrow, hrow1, hii]
            have w1 : 0 ≤ agLo (intAt en i) (dLo n get a b c d e f i) 1 1 ∧ agLo (intAt en i) (dLo n get a b c d e f i) 1 1 ≤ 2000000000000000000 := z1
            have w2 : 0 ≤ agHi (intAt en i) (dHi n get a b c d e f i) 1 1 ∧ agHi (intAt en i) (dHi n get a b c d e f i) 1 1 ≤ 2000000000000000001 := z2
            have w3 : 0 ≤ agLo (intAt en i) (eLo n get a b c d e f i) num den ∧ agLo (intAt en i) (eLo n get a b c d e f i) num den ≤ 2000000000000000000 := z3
            have w4 : 0 ≤ agHi (intAt en i) (eHi n get a b c d e f i) num den ∧ agHi (intAt en i) (eHi n get a b c d e f i) num den ≤ 2000000000000000001 := z4
            refine ⟨⟨by omega, by omega⟩, ⟨by omega, by omega⟩, inK_of (by omega) (by omega), ⟨by omega, by omega⟩, ⟨by omega, by omega⟩, inK_of (by omega) (by omega), ⟨by omega, by omega⟩, inK_of (by omega) (by omega), by omega, i + 1, hlt, by omega, by rw [Int.natCast_add]; rfl, ?_⟩
            refine HpLe.upd (HpLe.upd HpLe.none ?_) ?_
            · refine ⟨_, by simp (maxSteps := 4000000) only [go_sem, ↓op_move, ↓op_assign, ↓op_pick, ↓op_alloc, ↓op_box, ↓op_build, ↓op_buildSlice, ↓op_load, ↓op_store, ↓op_nilCheck, ↓op_bin, ↓op_un, ↓op_convert, ↓op_makeFunc, ↓op_makeSlice, ↓op_slice, ↓op_fieldAddr, ↓op_field, ↓op_indexAddr, ↓op_index, ↓op_extract, ↓op_lookup, ↓op_mapUpdate, ↓op_makeMap, ↓op_range, ↓op_next, ↓op_call, ↓op_builtin, ↓g_tt, ↓g_ff, ↓g_tf, ↓g_ft, ↓g_tnt, ↓g_tnf, ↓g_fnt, ↓g_fnf, ↓mkT_getD, hk0, hk1, hk2, hk3]; exact rfl, ?_⟩
              refine objLe_arr fun j hj => ?_
              by_cases e1 : j = i
              · rw [if_pos (by omega), if_pos e1, e1]; rfl
              · rw [if_neg e1, if_neg e1]
                by_cases e2 : j < i
                · rw [if_pos (by omega), if_pos e2]
                · rw [if_neg (by omega), if_neg e2]
            · exact ⟨_, by simp (maxSteps := 4000000) only [go_sem, ↓op_move, ↓op_assign, ↓op_pick, ↓op_alloc, ↓op_box, ↓op_build, ↓op_buildSlice, ↓op_load, ↓op_store, ↓op_nilCheck, ↓op_bin, ↓op_un, ↓op_convert, ↓op_makeFunc, ↓op_makeSlice, ↓op_slice, ↓op_fieldAddr, ↓op_field, ↓op_indexAddr, ↓op_index, ↓op_extract, ↓op_lookup, ↓op_mapUpdate, ↓op_makeMap, ↓op_range, ↓op_next, ↓op_call, ↓op_builtin, ↓g_tt, ↓g_ff, ↓g_tf, ↓g_ft, ↓g_tnt, ↓g_tnf, ↓g_fnt, ↓g_fnf, ↓mkT_getD, hk0, hk1, hk2, hk3]; done, ObjLe.refl _⟩
          · have hd : decide ((i : Int) < (inN get 0 4 : Int)) = false := by simp; omega
            obtain rfl : i = inN get 0 4 := by omega
            rw [← hq0]
            clear hq0
            simp (maxSteps := 4000000) only [go_sem, ↓op_move, ↓op_assign, ↓op_pick, ↓op_alloc, ↓op_box, ↓op_build, ↓op_buildSlice, ↓op_load, ↓op_store, ↓op_nilCheck, ↓op_bin, ↓op_un, ↓op_convert, ↓op_makeFunc, ↓op_makeSlice, ↓op_slice, ↓op_fieldAddr, ↓op_field, ↓op_indexAddr, ↓op_index, ↓op_extract, ↓op_lookup, ↓op_mapUpdate, ↓op_makeMap, ↓op_range, ↓op_next, ↓op_call, ↓op_builtin, ↓g_tt, ↓g_ff, ↓g_tf, ↓g_ft, ↓g_tnt, ↓g_tnf, ↓g_fnt, ↓g_fnf, ↓mkT_getD, hd, hp, hpe, hk0, hk1, hk2, hk3, Nat.zero_add]
            refine VEnt.tup ⟨VEnt.sl fun j hj => ?_, VEnt.refl _, trivial⟩
            rw [if_pos hj]
            exact frzRow_pu fun v hv => (ones2 v hv).1
    · have hd : decide (energiesE n' en (inN get 0 4) 1000000000 = 0) = false := decide_eq_false hce
      have hE : tot3E n get a b c d e f n' en = energiesE n' en (inN get 0 4) 1000000000 := by unfold tot3E; rw [if_neg (by simp [hck])]
      have hfl : decide (firstL [(0 : Int), 0] = 0) = true := rfl
      have hcn := hok.cnt
      simp only [Proofs.Tryz.f70]
      rw [enter_mkT (Nat.le_of_ble_eq_true rfl)]
      simp (maxSteps := 4000000) only [go_sem, ↓op_move, ↓op_assign, ↓op_pick, ↓op_alloc, ↓op_box, ↓op_build, ↓op_buildSlice, ↓op_load, ↓op_store, ↓op_nilCheck, ↓op_bin, ↓op_un, ↓op_convert, ↓op_makeFunc, ↓op_makeSlice, ↓op_slice, ↓op_fieldAddr, ↓op_field, ↓op_indexAddr, ↓op_index, ↓op_extract, ↓op_lookup, ↓op_mapUpdate, ↓op_makeMap, ↓op_range, ↓op_next, ↓op_call, ↓op_builtin, ↓g_tt, ↓g_ff, ↓g_tf, ↓g_ft, ↓g_tnt, ↓g_tnf, ↓g_fnt, ↓g_fnf, ↓mkT_getD, hp, hpe, hg0, hp0, hck, hd, hic, hfl]
      rw [hE, orE_err hce]
      exact ⟨hair, ⟨hna, hnb⟩, by omega, ⟨hen, hn'⟩, VEnt.refl _⟩
  · have hfl : firstL [checkE n get a b c d e f, 0] = checkE n get a b c d e f := by simp [firstL, hck]
    have hd : decide (checkE n get a b c d e f = 0) = false := decide_eq_false hck
    have hE : tot3E n get a b c d e f n' en = checkE n get a b c d e f := by unfold tot3E; rw [if_pos hck]
    simp only [Proofs.Tryz.f70]
    rw [enter_mkT (Nat.le_of_ble_eq_true rfl)]
    simp (maxSteps := 4000000) only [go_sem, ↓op_move, ↓op_assign, ↓op_pick, ↓op_alloc, ↓op_box, ↓op_build, ↓op_buildSlice, ↓op_load, ↓op_store, ↓op_nilCheck, ↓op_bin, ↓op_un, ↓op_convert, ↓op_makeFunc, ↓op_makeSlice, ↓op_slice, ↓op_fieldAddr, ↓op_field, ↓op_indexAddr, ↓op_index, ↓op_extract, ↓op_lookup, ↓op_mapUpdate, ↓op_makeMap, ↓op_range, ↓op_next, ↓op_call, ↓op_builtin, ↓g_tt, ↓g_ff, ↓g_tf, ↓g_ft, ↓g_tnt, ↓g_tnf, ↓g_fnt, ↓g_fnf, ↓mkT_getD, hp, hpe, hic, hfl, hd]
    rw [hE, orE_err hck]
    exact ⟨hair, ⟨hna, hnb⟩, VEnt.refl _⟩
end Go.Fly.Tryz
end
