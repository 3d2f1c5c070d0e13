/- Copies of airs and types whose lists stay the call's own. -/
import Derived.Test.YtlfciglmhomdpaaSBO
import Derived.Test.YtlfciglmhomdpaaAT
set_option linter.unusedSimpArgs false
set_option linter.unusedVariables false
set_option maxRecDepth 100000
set_option maxHeartbeats 400000
namespace Go.Fly.Try
open Go

theorem airIn {Γ : FuncId → Option Contract} {r : Option Nat} {k0 : K} {hp : Heap} {ck n : Nat} {get : Nat → List V} {Kn : V → Heap → Nat → Prop} (hX : (⟨Proofs.Try.prog, Γ, G0, r, k0⟩ : Cx).Ok) (hair : IsAir n get) (hn8 : n ≤ 8) (hb8 : ∀ i, i < n → inN get i 4 ≤ 8)
    (hfree : ∀ l : Loc, ck < l.1 → hp l = none)
    (hKn : ∀ (L : Loc) (ck' : Nat) (b : NA), NInv L 5 (ownRow get) 2 (fun i => inN get i 4) (airR get) hp ck n ck' b → b.i = n → ck < L.1 → L.1 < ck' → Kn (.msl L 0 n) b.H ck') : CallT ⟨Proofs.Try.prog, Γ, G0, r, k0⟩ hp ck 9 [.sl n 5 get] Kn := by
  refine CallT.inline hX Proofs.Try.func9 rfl foll (D := D9) (by kernel_rfl) (tab [(ownKey 22, iceC)]) (tab_ok ⟨ice_holds, trivial⟩) fun k1 => ?_
  have hpu := hair.pu
  simp only [Proofs.Try.f9]
  simp (maxSteps := 4000000) only [go_sem, ↓op_move, ↓op_assign, ↓op_pick, ↓op_alloc, ↓op_box, ↓op_build, ↓op_buildSlice, ↓op_load, ↓op_store, ↓op_nilCheck, ↓op_bin, ↓op_un, ↓op_convert, ↓op_makeFunc, ↓op_makeSlice, ↓op_slice, ↓op_fieldAddr, ↓op_field, ↓op_indexAddr, ↓op_index, ↓op_extract, ↓op_range, ↓op_next, ↓op_call, ↓op_builtin, ↓g_tt, ↓g_ff, ↓g_tf, ↓g_ft, ↓g_tnt, ↓g_tnf, ↓g_fnt, ↓g_fnf, hpu]
  refine RestT.ents (Ents.nilArr (d := 3) (l := (ck + 1 + 1 + 1 + 1, 1000)) 5 (ownRow get (fun _ => (0, 0))) rfl (hfree _ (by show ck < ck + 1 + 1 + 1 + 1; omega)) rfl) ?_
  simp only [go_sem, ↓op_move, ↓op_assign, ↓op_pick, ↓op_alloc, ↓op_box, ↓op_build, ↓op_buildSlice, ↓op_load, ↓op_store, ↓op_nilCheck, ↓op_bin, ↓op_un, ↓op_convert, ↓op_makeFunc, ↓op_makeSlice, ↓op_slice, ↓op_fieldAddr, ↓op_field, ↓op_indexAddr, ↓op_index, ↓op_extract, ↓op_range, ↓op_next, ↓op_call, ↓op_builtin, ↓g_tt, ↓g_ff, ↓g_tf, ↓g_ft, ↓g_tnt, ↓g_tnf, ↓g_fnt, ↓g_fnf]
  refine RestT.loopK (β := NA) [5, 9, 10, 11, 12, 13, 14, 15, 16, 17, 18, 19, 20, 21, 22, 23, 24, 25, 26] (fun b => [(3, .msl (ck + 1 + 1 + 1 + 1, 1000) 0 b.i), (8, .int .i64 b.i)]) (fun b => b.H) (fun c b => NInv (ck + 1 + 1 + 1 + 1, 1000) 5 (ownRow get) 2 (fun i => inN get i 4) (airR get) hp ck n c b ∧ ck + 1 + 1 + 1 + 1 < c) (fun b => n - b.i)
    ⟨0, fun _ => (0, 0), updH hp (ck + 1 + 1 + 1 + 1, 1000) (.arr 0 5 (ownRow get (fun _ => (0, 0))))⟩ ⟨NInv.start (by show ck < ck + 1 + 1 + 1 + 1; omega) (by show ck + 1 + 1 + 1 + 1 < _; omega) hfree, by omega⟩ ?_ (HpLe.refl _) ?_
  · simp (maxSteps := 4000000) only [go_sem, ↓op_move, ↓op_assign, ↓op_pick, ↓op_alloc, ↓op_box, ↓op_build, ↓op_buildSlice, ↓op_load, ↓op_store, ↓op_nilCheck, ↓op_bin, ↓op_un, ↓op_convert, ↓op_makeFunc, ↓op_makeSlice, ↓op_slice, ↓op_fieldAddr, ↓op_field, ↓op_indexAddr, ↓op_index, ↓op_extract, ↓op_range, ↓op_next, ↓op_call, ↓op_builtin, ↓g_tt, ↓g_ff, ↓g_tf, ↓g_ft, ↓g_tnt, ↓g_tnf, ↓g_fnt, ↓g_fnf]
  · intro ck' b hck hI
    generalize hq0 : exC _ _ _ _ _ = gg
    obtain ⟨i, nu, H⟩ := b
    obtain ⟨hI, hc4⟩ := hI
    have hle : i ≤ n := hI.le
    by_cases hlt : i < n
    · have hd : decide ((i : Int) < (n : Int)) = true := by simp; omega
      obtain ⟨hg, hiv⟩ := hair.2 i hlt
      have hp2 := hiv.pu
      have hout : H (ck + 1 + 1 + 1 + 1, 1000) = some (.arr i 5 (ownRow get nu)) := hI.outer
      have f0 : ∀ d, H (ck', d) = none := fun d => hI.free _ (Nat.le_refl _)
      have f1 : ∀ d, H (ck' + 1, d) = none := fun d => hI.free _ (by show ck' ≤ ck' + 1; omega)
      have f2 : ∀ d, H (ck' + 1 + 1, d) = none := fun d => hI.free _ (by show ck' ≤ ck' + 1 + 1; omega)
      have f3 : ∀ d, H (ck' + 1 + 1 + 1, d) = none := fun d => hI.free _ (by show ck' ≤ ck' + 1 + 1 + 1; omega)
      rw [← hq0]
      clear hq0
      have hz : 0 + inN get i 4 = inN get i 4 := Nat.zero_add _
      have hbi := hb8 i hlt
      simp (maxSteps := 4000000) only [go_sem, ↓op_move, ↓op_assign, ↓op_pick, ↓op_alloc, ↓op_box, ↓op_build, ↓op_buildSlice, ↓op_load, ↓op_store, ↓op_nilCheck, ↓op_bin, ↓op_un, ↓op_convert, ↓op_makeFunc, ↓op_makeSlice, ↓op_slice, ↓op_fieldAddr, ↓op_field, ↓op_indexAddr, ↓op_index, ↓op_extract, ↓op_range, ↓op_next, ↓op_call, ↓op_builtin, ↓g_tt, ↓g_ff, ↓g_tf, ↓g_ft, ↓g_tnt, ↓g_tnf, ↓g_fnt, ↓g_fnf, hd, hg, hpu, hp2, app0, hz, hout, f0, f1, f2, f3]
      refine ⟨⟨by omega, by omega⟩, ⟨by omega, by omega, ivs_okN hiv⟩, ⟨by omega, by omega, row_okN rfl onesN5⟩, inK_of (by omega) (by omega), by omega,
        ⟨i + 1, updN nu i (ck' + 1 + 1 + 1, 19), updH (updH H (ck' + 1 + 1 + 1, 19) (.arr (inN get i 4) 2 (airR get i))) (ck + 1 + 1 + 1 + 1, 1000) (.arr (i + 1) 5 (ownRow get (updN nu i (ck' + 1 + 1 + 1, 19))))⟩,
        ⟨hI.snoc hlt (by show ck' ≤ ck' + 1 + 1 + 1; omega) (by show ck' + 1 + 1 + 1 < _; omega) (by show ck < ck + 1 + 1 + 1 + 1; omega) (by show ck + 1 + 1 + 1 + 1 < ck'; omega) (fun a b j h => by simp only [ownRow, h]), by omega⟩, by show n - (i + 1) < n - i; omega, ⟨rfl, rfl⟩, ?_⟩
      refine hp_le2 ⟨_, ?_, objLe_arr fun j hj => (hiv.2 j hj).symm⟩ ⟨_, updH_same _ _ _, objLe_arr fun j hj => snocN rfl ?_ (fun k hk => ?_) hj⟩ fun l' o q1 q2 q3 => ?_
      · simp (maxSteps := 4000000) only [go_sem, ↓op_move, ↓op_assign, ↓op_pick, ↓op_alloc, ↓op_box, ↓op_build, ↓op_buildSlice, ↓op_load, ↓op_store, ↓op_nilCheck, ↓op_bin, ↓op_un, ↓op_convert, ↓op_makeFunc, ↓op_makeSlice, ↓op_slice, ↓op_fieldAddr, ↓op_field, ↓op_indexAddr, ↓op_index, ↓op_extract, ↓op_range, ↓op_next, ↓op_call, ↓op_builtin, ↓g_tt, ↓g_ff, ↓g_tf, ↓g_ft, ↓g_tnt, ↓g_tnf, ↓g_fnt, ↓g_fnf]
      · simp only [ownRow, updN_same]
      · simp only [ownRow, updN_ne (Nat.ne_of_lt hk)]
      · have hl : l'.1 < ck' := by
          rcases Nat.lt_or_ge l'.1 ck' with h | h
          · exact h
          · rw [show H l' = none from hI.free l' h] at q3; cases q3
        rw [updH_ne q2, updH_ne (by rintro rfl; simp at hl; omega), updH_ne q1, updH_ne q1, updH_ne (by rintro rfl; simp at hl; omega), updH_ne (by rintro rfl; simp at hl; omega)]
        exact q3
    · have hd : decide ((i : Int) < (n : Int)) = false := by simp; omega
      obtain rfl : i = n := by omega
      rw [← hq0]
      clear hq0
      simp (maxSteps := 4000000) only [go_sem, ↓op_move, ↓op_assign, ↓op_pick, ↓op_alloc, ↓op_box, ↓op_build, ↓op_buildSlice, ↓op_load, ↓op_store, ↓op_nilCheck, ↓op_bin, ↓op_un, ↓op_convert, ↓op_makeFunc, ↓op_makeSlice, ↓op_slice, ↓op_fieldAddr, ↓op_field, ↓op_indexAddr, ↓op_index, ↓op_extract, ↓op_range, ↓op_next, ↓op_call, ↓op_builtin, ↓g_tt, ↓g_ff, ↓g_tf, ↓g_ft, ↓g_tnt, ↓g_tnf, ↓g_fnt, ↓g_fnf, hd, hpu]
      refine ⟨_, Ents.refl _ _, ?_⟩
      simp (maxSteps := 4000000) only [go_sem, ↓op_move, ↓op_assign, ↓op_pick, ↓op_alloc, ↓op_box, ↓op_build, ↓op_buildSlice, ↓op_load, ↓op_store, ↓op_nilCheck, ↓op_bin, ↓op_un, ↓op_convert, ↓op_makeFunc, ↓op_makeSlice, ↓op_slice, ↓op_fieldAddr, ↓op_field, ↓op_indexAddr, ↓op_index, ↓op_extract, ↓op_range, ↓op_next, ↓op_call, ↓op_builtin, ↓g_tt, ↓g_ff, ↓g_tf, ↓g_ft, ↓g_tnt, ↓g_tnf, ↓g_fnt, ↓g_fnf, hpu]
      exact hKn _ _ ⟨i, nu, H⟩ (hI.mono (by omega)) rfl (by show ck < ck + 1 + 1 + 1 + 1; omega) (by show ck + 1 + 1 + 1 + 1 < _; omega)

theorem ownIn {Γ : FuncId → Option Contract} {r : Option Nat} {k0 : K} {hp : Heap} {ck : Nat} {s : List UInt8} {ns : Nat} {gs : Nat → List V} {d0 d1 d2 d3 d4 d5 d6 d7 side : Int} {nq : Nat} {gq : Nat → List V} {m : Nat} {gt : Nat → List V} {Kn : V → Heap → Nat → Prop} (hX : (⟨Proofs.Try.prog, Γ, G0, r, k0⟩ : Cx).Ok)
    (hs : IsInts ns gs) (hq : IsInts nq gq) (ht : IsSet m gt) (hn8 : ns ≤ 8) (hq8 : nq ≤ 8) (hm6 : m ≤ 6) (hb8 : ∀ i, i < m → inN gt i 1 ≤ 8)
    (hfree : ∀ l : Loc, ck < l.1 → hp l = none)
    (hKn : ∀ (L : Loc) (ck' : Nat) (b : NA), NInv L 2 (ownSet gt) 1 (fun i => inN gt i 1) (setR gt) hp ck m ck' b → b.i = m → ck < L.1 → L.1 < ck' →
      Kn (.agg [.str s, .sl ns 1 gs, .int .i64 d0, .int .i64 d1, .int .i64 d2, .int .i64 d3, .int .i64 d4, .int .i64 d5, .int .i64 d6, .int .i64 d7, .int .i64 side, .sl nq 1 gq, .msl L 0 m]) b.H ck') :
    CallT ⟨Proofs.Try.prog, Γ, G0, r, k0⟩ hp ck 11 [.agg [.str s, .sl ns 1 gs, .int .i64 d0, .int .i64 d1, .int .i64 d2, .int .i64 d3, .int .i64 d4, .int .i64 d5, .int .i64 d6, .int .i64 d7, .int .i64 side, .sl nq 1 gq, .sl m 2 gt]] Kn := by
  refine CallT.inline hX Proofs.Try.func11 rfl foll (D := D11) (by kernel_rfl) (tab [(ownKey 39, iceC), (iceKey 1, iceC)]) (tab_ok ⟨ice_holds, ice_holds, trivial⟩) fun k1 => ?_
  have hp1 := hs.pu
  have hp2 := hq.pu
  have hp3 := ht.pu
  have hz1 : 0 + ns = ns := Nat.zero_add _
  have hz2 : 0 + nq = nq := Nat.zero_add _
  have f1 : ∀ d, hp (ck + 1, d) = none := fun d => hfree _ (by show ck < ck + 1; omega)
  have f2 : ∀ d, hp (ck + 1 + 1, d) = none := fun d => hfree _ (by show ck < ck + 1 + 1; omega)
  have f3 : ∀ d, hp (ck + 1 + 1 + 1, d) = none := fun d => hfree _ (by show ck < ck + 1 + 1 + 1; omega)
  have f4 : ∀ d, hp (ck + 1 + 1 + 1 + 1, d) = none := fun d => hfree _ (by show ck < ck + 1 + 1 + 1 + 1; omega)
  have f5 : ∀ d, hp (ck + 1 + 1 + 1 + 1 + 1, d) = none := fun d => hfree _ (by show ck < ck + 1 + 1 + 1 + 1 + 1; omega)
  simp only [Proofs.Try.f11]
  simp (maxSteps := 4000000) only [go_sem, ↓op_move, ↓op_assign, ↓op_pick, ↓op_alloc, ↓op_box, ↓op_build, ↓op_buildSlice, ↓op_load, ↓op_store, ↓op_nilCheck, ↓op_bin, ↓op_un, ↓op_convert, ↓op_makeFunc, ↓op_makeSlice, ↓op_slice, ↓op_fieldAddr, ↓op_field, ↓op_indexAddr, ↓op_index, ↓op_extract, ↓op_range, ↓op_next, ↓op_call, ↓op_builtin, ↓g_tt, ↓g_ff, ↓g_tf, ↓g_ft, ↓g_tnt, ↓g_tnf, ↓g_fnt, ↓g_fnf, hp1, hp2, hp3, app0, hz1, hz2, f1, f2, f3, f4, f5]
  refine ⟨⟨by omega, by omega, ints_ok hs⟩, ⟨by omega, by omega, ints_ok hq⟩, ?_⟩
  refine RestT.ents (Ents.nilC (l := (ck + 1 + 1 + 1 + 1 + 1, 1000)) (l2 := (ck + 1 + 1 + 1, 3)) (cs := [.str s, .sl ns 1 gs, .int .i64 d0, .int .i64 d1, .int .i64 d2, .int .i64 d3, .int .i64 d4, .int .i64 d5, .int .i64 d6, .int .i64 d7, .int .i64 side, .sl nq 1 gq, .nils]) (j := 12) 2 (ownSet gt fun _ => (0, 0)) (by simp) (by simp [updH]) rfl (by simp [updH, f5]) rfl) ?_
  have key : ∀ i, ([V.str s, V.sl ns 1 gs, .int .i64 d0, .int .i64 d1, .int .i64 d2, .int .i64 d3, .int .i64 d4, .int .i64 d5, .int .i64 d6, .int .i64 d7, .int .i64 side, .sl nq 1 gq, V.nils].set 12 (.msl (ck + 1 + 1 + 1 + 1 + 1, 1000) 0 i)) = [V.str s, V.sl ns 1 gs, .int .i64 d0, .int .i64 d1, .int .i64 d2, .int .i64 d3, .int .i64 d4, .int .i64 d5, .int .i64 d6, .int .i64 d7, .int .i64 side, .sl nq 1 gq, .msl (ck + 1 + 1 + 1 + 1 + 1, 1000) 0 i] := fun i => rfl
  refine RestT.loopK (β := NA) [17, 18, 19, 20, 21, 22, 23, 24, 25, 26, 27, 28, 29, 30, 31, 32, 33, 34, 35, 36, 37, 38, 39, 40, 41, 42, 43] (fun b => [(4, .int .i64 b.i)]) (fun b => b.H)
    (fun c b => NInv (ck + 1 + 1 + 1 + 1 + 1, 1000) 2 (ownSet gt) 1 (fun i => inN gt i 1) (setR gt) hp ck m c b ∧ ck + 1 + 1 + 1 + 1 + 1 < c ∧ (∀ j, j < b.i → (b.nu j).2 = 32) ∧
      b.H (ck + 1 + 1 + 1, 3) = some (.cells [V.str s, V.sl ns 1 gs, .int .i64 d0, .int .i64 d1, .int .i64 d2, .int .i64 d3, .int .i64 d4, .int .i64 d5, .int .i64 d6, .int .i64 d7, .int .i64 side, .sl nq 1 gq, .msl (ck + 1 + 1 + 1 + 1 + 1, 1000) 0 b.i]) ∧
      b.H (ck + 1 + 1, 2) = some (.cells [.str [], .nils, .int .i64 0, .int .i64 0, .int .i64 0, .int .i64 0, .int .i64 0, .int .i64 0, .int .i64 0, .int .i64 0, .int .i64 0, .nils, .nils])) (fun b => m - b.i)
    ⟨0, fun _ => (0, 0), updH (updH (updH hp (ck + 1 + 1 + 1 + 1 + 1, 1000) (.arr 0 2 (ownSet gt fun _ => (0, 0)))) (ck + 1 + 1, 2) (.cells [.str [], .nils, .int .i64 0, .int .i64 0, .int .i64 0, .int .i64 0, .int .i64 0, .int .i64 0, .int .i64 0, .int .i64 0, .int .i64 0, .nils, .nils])) (ck + 1 + 1 + 1, 3) (.cells [V.str s, V.sl ns 1 gs, .int .i64 d0, .int .i64 d1, .int .i64 d2, .int .i64 d3, .int .i64 d4, .int .i64 d5, .int .i64 d6, .int .i64 d7, .int .i64 side, .sl nq 1 gq, .msl (ck + 1 + 1 + 1 + 1 + 1, 1000) 0 0])⟩
    ⟨?_, by show ck + 1 + 1 + 1 + 1 + 1 < ck + 1 + 1 + 1 + 1 + 1 + 1; omega, fun j hj => absurd hj (Nat.not_lt_zero _), by simp [updH], by simp [updH]⟩ ?_ ?_ ?_
  · have h0 : NInv (ck + 1 + 1 + 1 + 1 + 1, 1000) 2 (ownSet gt) 1 (fun i => inN gt i 1) (setR gt) hp ck m (ck + 1 + 1 + 1 + 1 + 1 + 1) ⟨0, fun _ => (0, 0), updH hp (ck + 1 + 1 + 1 + 1 + 1, 1000) (.arr 0 2 (ownSet gt fun _ => (0, 0)))⟩ := NInv.start (by show ck < ck + 1 + 1 + 1 + 1 + 1; omega) (by show ck + 1 + 1 + 1 + 1 + 1 < _; omega) hfree
    exact (h0.box (l0 := (ck + 1 + 1, 2)) (by show ck < ck + 1 + 1; omega) (by show ck + 1 + 1 < _; omega) (by simp) (fun j hj => absurd hj (Nat.not_lt_zero _))).box (l0 := (ck + 1 + 1 + 1, 3)) (by show ck < ck + 1 + 1 + 1; omega) (by show ck + 1 + 1 + 1 < _; omega) (by simp) (fun j hj => absurd hj (Nat.not_lt_zero _))
  · simp (maxSteps := 4000000) only [go_sem, ↓op_move, ↓op_assign, ↓op_pick, ↓op_alloc, ↓op_box, ↓op_build, ↓op_buildSlice, ↓op_load, ↓op_store, ↓op_nilCheck, ↓op_bin, ↓op_un, ↓op_convert, ↓op_makeFunc, ↓op_makeSlice, ↓op_slice, ↓op_fieldAddr, ↓op_field, ↓op_indexAddr, ↓op_index, ↓op_extract, ↓op_range, ↓op_next, ↓op_call, ↓op_builtin, ↓g_tt, ↓g_ff, ↓g_tf, ↓g_ft, ↓g_tnt, ↓g_tnf, ↓g_fnt, ↓g_fnf]
  · refine hp_le3 ⟨_, by simp [updH], ObjLe.refl _⟩ ⟨_, by simp [updH], ObjLe.refl _⟩ ⟨_, by simp [updH], ObjLe.refl _⟩ fun l' o q1 q2 q3 q4 => ?_
    have hl : l'.1 ≤ ck := by
      rcases Nat.lt_or_ge ck l'.1 with h | h
      · rw [hfree l' h] at q4; cases q4
      · exact h
    have n4 : ∀ d, l' ≠ (ck + 1 + 1 + 1 + 1, d) := fun d e => by rw [e] at hl; simp at hl; omega
    simp only [updH_app, if_neg q1, if_neg q2, if_neg q3, if_neg (n4 _)]
    exact q4
  · intro ck' b hck hI
    generalize hq0 : exC _ _ _ _ _ = gg
    obtain ⟨i, nu, H⟩ := b
    obtain ⟨hI, hc4, h32, hb3, hb2⟩ := hI
    have hb3 : H (ck + 1 + 1 + 1, 3) = some (.cells [V.str s, V.sl ns 1 gs, .int .i64 d0, .int .i64 d1, .int .i64 d2, .int .i64 d3, .int .i64 d4, .int .i64 d5, .int .i64 d6, .int .i64 d7, .int .i64 side, .sl nq 1 gq, .msl (ck + 1 + 1 + 1 + 1 + 1, 1000) 0 i]) := hb3
    have hb2 : H (ck + 1 + 1, 2) = some (.cells [.str [], .nils, .int .i64 0, .int .i64 0, .int .i64 0, .int .i64 0, .int .i64 0, .int .i64 0, .int .i64 0, .int .i64 0, .int .i64 0, .nils, .nils]) := hb2
    have h32 : ∀ j, j < i → (nu j).2 = 32 := h32
    have hle : i ≤ m := hI.le
    by_cases hlt : i < m
    · have hd : decide ((i : Int) < (m : Int)) = true := by simp; omega
      obtain ⟨hg, hin⟩ := ht.2 i hlt
      have hp4 := hin.pu
      have hz : 0 + inN gt i 1 = inN gt i 1 := Nat.zero_add _
      have hbi := hb8 i hlt
      have hout : H (ck + 1 + 1 + 1 + 1 + 1, 1000) = some (.arr i 2 (ownSet gt nu)) := hI.outer
      have g0 : ∀ d, H (ck', d) = none := fun d => hI.free _ (Nat.le_refl _)
      have g1 : ∀ d, H (ck' + 1, d) = none := fun d => hI.free _ (by show ck' ≤ ck' + 1; omega)
      have g2 : ∀ d, H (ck' + 1 + 1, d) = none := fun d => hI.free _ (by show ck' ≤ ck' + 1 + 1; omega)
      have g3 : ∀ d, H (ck' + 1 + 1 + 1, d) = none := fun d => hI.free _ (by show ck' ≤ ck' + 1 + 1 + 1; omega)
      rw [← hq0]
      clear hq0
      simp (maxSteps := 4000000) only [go_sem, ↓op_move, ↓op_assign, ↓op_pick, ↓op_alloc, ↓op_box, ↓op_build, ↓op_buildSlice, ↓op_load, ↓op_store, ↓op_nilCheck, ↓op_bin, ↓op_un, ↓op_convert, ↓op_makeFunc, ↓op_makeSlice, ↓op_slice, ↓op_fieldAddr, ↓op_field, ↓op_indexAddr, ↓op_index, ↓op_extract, ↓op_range, ↓op_next, ↓op_call, ↓op_builtin, ↓g_tt, ↓g_ff, ↓g_tf, ↓g_ft, ↓g_tnt, ↓g_tnf, ↓g_fnt, ↓g_fnf, hd, hg, hp1, hp2, hp3, hp4, app0, hz, hb3, hb2, hout, g0, g1, g2, g3]
      have hnb : ∀ j, j < i → nu j ≠ (ck + 1 + 1 + 1, 3) := fun j hj e => by have := h32 j hj; rw [e] at this; simp at this
      have hI2 : NInv (ck + 1 + 1 + 1 + 1 + 1, 1000) 2 (ownSet gt) 1 (fun i => inN gt i 1) (setR gt) hp ck m ck' ⟨i, nu, updH H (ck + 1 + 1 + 1, 3) (.cells [V.str s, V.sl ns 1 gs, .int .i64 d0, .int .i64 d1, .int .i64 d2, .int .i64 d3, .int .i64 d4, .int .i64 d5, .int .i64 d6, .int .i64 d7, .int .i64 side, .sl nq 1 gq, .msl (ck + 1 + 1 + 1 + 1 + 1, 1000) 0 (i + 1)])⟩ :=
        hI.box (by show ck < ck + 1 + 1 + 1; omega) (by show ck + 1 + 1 + 1 < ck'; omega) (by simp) hnb
      have hI3 := hI2.snoc (ck' := ck' + 1 + 1 + 1 + 1) (l := (ck' + 1 + 1, 32)) hlt (by show ck' ≤ ck' + 1 + 1; omega) (by show ck' + 1 + 1 < _; omega) (by show ck < ck + 1 + 1 + 1 + 1 + 1; omega) (by show ck + 1 + 1 + 1 + 1 + 1 < ck'; omega) (fun a b j h => by simp only [ownSet, h])
      refine ⟨⟨by omega, by omega⟩, ⟨by omega, by omega⟩, ⟨by omega, by omega, ints_okN hin⟩, ⟨by omega, by omega, row_okN rfl onesN2⟩, inK_of (by omega) (by omega), by omega, _, ⟨hI3, by omega, fun j hj => ?_, ?_, ?_⟩, by show m - (i + 1) < m - i; omega, rfl, ?_⟩
      · have hj : j < i + 1 := hj
        show (updN nu i (ck' + 1 + 1, 32) j).2 = 32
        by_cases e : j = i
        · subst e; rw [updN_same]
        · rw [updN_ne e]; exact h32 j (by omega)
      · simp [updH]
      · simp only [updH_app]
        simp [hb2]
      · refine hp_le3 ⟨_, updH_same _ _ _, ObjLe.refl _⟩ ⟨_, ?_, objLe_arr fun j hj => (hin.2 j hj).symm⟩ ⟨_, (updH_ne (by simp)).trans (updH_same _ _ _), objLe_arr fun j hj => snocN rfl ?_ (fun k hk => ?_) hj⟩ fun l' o q1 q2 q3 q4 => ?_
        · simp (maxSteps := 4000000) only [go_sem, ↓op_move, ↓op_assign, ↓op_pick, ↓op_alloc, ↓op_box, ↓op_build, ↓op_buildSlice, ↓op_load, ↓op_store, ↓op_nilCheck, ↓op_bin, ↓op_un, ↓op_convert, ↓op_makeFunc, ↓op_makeSlice, ↓op_slice, ↓op_fieldAddr, ↓op_field, ↓op_indexAddr, ↓op_index, ↓op_extract, ↓op_range, ↓op_next, ↓op_call, ↓op_builtin, ↓g_tt, ↓g_ff, ↓g_tf, ↓g_ft, ↓g_tnt, ↓g_tnf, ↓g_fnt, ↓g_fnf]
        · simp only [ownSet, updN_same]
        · simp only [ownSet, updN_ne (Nat.ne_of_lt hk)]
        · have hl : l'.1 < ck' := by
            rcases Nat.lt_or_ge l'.1 ck' with h | h
            · exact h
            · rw [show H l' = none from hI.free l' h] at q4; cases q4
          rw [updH_ne q1, updH_ne q3, updH_ne (by rintro rfl; simp at hl; omega), updH_ne q2, updH_ne q2]
          exact q4
    · have hd : decide ((i : Int) < (m : Int)) = false := by simp; omega
      obtain rfl : i = m := by omega
      rw [← hq0]
      clear hq0
      simp (maxSteps := 4000000) only [go_sem, ↓op_move, ↓op_assign, ↓op_pick, ↓op_alloc, ↓op_box, ↓op_build, ↓op_buildSlice, ↓op_load, ↓op_store, ↓op_nilCheck, ↓op_bin, ↓op_un, ↓op_convert, ↓op_makeFunc, ↓op_makeSlice, ↓op_slice, ↓op_fieldAddr, ↓op_field, ↓op_indexAddr, ↓op_index, ↓op_extract, ↓op_range, ↓op_next, ↓op_call, ↓op_builtin, ↓g_tt, ↓g_ff, ↓g_tf, ↓g_ft, ↓g_tnt, ↓g_tnf, ↓g_fnt, ↓g_fnf, hd, hp1, hp2, hp3, hb3, hb2]
      refine ⟨_, Ents.refl _ _, ?_⟩
      simp (maxSteps := 4000000) only [go_sem, ↓op_move, ↓op_assign, ↓op_pick, ↓op_alloc, ↓op_box, ↓op_build, ↓op_buildSlice, ↓op_load, ↓op_store, ↓op_nilCheck, ↓op_bin, ↓op_un, ↓op_convert, ↓op_makeFunc, ↓op_makeSlice, ↓op_slice, ↓op_fieldAddr, ↓op_field, ↓op_indexAddr, ↓op_index, ↓op_extract, ↓op_range, ↓op_next, ↓op_call, ↓op_builtin, ↓g_tt, ↓g_ff, ↓g_tf, ↓g_ft, ↓g_tnt, ↓g_tnf, ↓g_fnt, ↓g_fnf, hp1, hp2, hp3, hb3, hb2]
      have hnb : ∀ j, j < i → nu j ≠ (ck + 1 + 1, 2) := fun j hj e => by have := h32 j hj; rw [e] at this; simp at this
      exact hKn _ _ ⟨i, nu, _⟩ ((hI.box (l0 := (ck + 1 + 1, 2)) (by show ck < ck + 1 + 1; omega) (by show ck + 1 + 1 < ck'; omega) (by simp) hnb).mono (by omega)) rfl (by show ck < ck + 1 + 1 + 1 + 1 + 1; omega) (by show ck + 1 + 1 + 1 + 1 + 1 < _; omega)
end Go.Fly.Try
