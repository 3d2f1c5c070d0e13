/- The fixed example of the laws on the office. -/
import Derived.Test.YtfcdodaakhlppaaGreatDoorSYTPD
import Derived.Test.YtfcdodaakhlppaaGreatDoorAW
set_option linter.unusedSimpArgs false
set_option linter.unusedVariables false
set_option maxRecDepth 100000
set_option maxHeartbeats 400000
namespace Go.Fly.Tryz
open Go Off

theorem eAdd0_call {Γ : FuncId → Option Contract} {r0 : Option Nat} {k0 : K} {H : Heap} {ck : Nat} {Kn : V → Heap → Nat → Prop} (hX : (⟨Proofs.Tryz.prog, Γ, G0, r0, k0⟩ : Cx).Ok) {box : Loc} {kind : Str} {names : List Str} {vals : List Int}
    (hb : H box = some (.cells [.nils])) (hlo1 : box.1 ≤ ck) (hbo : box.2 < 1000) (hk : H (ck, 1000) = none) (hf : ∀ q : Loc, ck < q.1 → H q = none)
    (hKn : ∀ ck', ck ≤ ck' → Kn (.tup []) (putJ H box (ck, 1000) [⟨1, kind, names, vals, []⟩]) ck') :
    CallT ⟨Proofs.Tryz.prog, Γ, G0, r0, k0⟩ H ck 8 [.ptr box 0, .str kind, encStrs names, encInts vals] Kn := by
  have hne : ¬ box = (ck, 1000) := by rintro rfl; simp at hbo
  have hne2 : ¬ (ck, 1000) = box := fun q => hne q.symm
  refine CallT.pre (ck2 := ck) (args2 := [.ptr box 0, .str kind, encStrs names, encInts vals]) (hp2 := updH (updH H (ck, 1000) (.arr 0 5 fun i => encEv (el [] i))) box (.cells [.msl (ck, 1000) 0 0])) (fun k0 => ?_) ?_
  · exact Ents.nilC (s := ⟨ck, _, H⟩) (l := (ck, 1000)) (l2 := box) (cs := [.nils]) (j := 0) 5 (fun i => encEv (el [] i)) hne hb rfl hk rfl
  · refine eAdd_call hX (box := box) (ln := (ck, 1000)) (l := []) ⟨updH_same _ _ _, by rw [updH_ne hne2, updH_same]; rfl, hlo1, Nat.le_refl _, hne, fun q hq => ?_, by decide⟩ fun ck' hck => ?_
    · rw [updH_ne (by rintro rfl; omega), updH_ne (by rintro rfl; simp at hq)]; exact hf q hq
    · have e : putJ (updH (updH H (ck, 1000) (.arr 0 5 fun i => encEv (el [] i))) box (.cells [.msl (ck, 1000) 0 0])) box (ck, 1000) [⟨1, kind, names, vals, []⟩] = putJ H box (ck, 1000) [⟨1, kind, names, vals, []⟩] := by
        funext q
        by_cases q1 : q = (ck, 1000)
        · subst q1; rw [putJ_ln, putJ_ln]
        · by_cases q2 : q = box
          · subst q2; rw [putJ_box hne, putJ_box hne]
          · rw [putJ_ne q2 q1, putJ_ne q2 q1, updH_ne q2, updH_ne q1]
      have := hKn ck' hck
      rw [← e] at this
      exact this

theorem eNumber_ok : Holds Proofs.Tryz.prog G0 7 eNumberC := by
  refine Holds.of_exC D7 Proofs.Tryz.func7 rfl foll (by kernel_rfl) (tab [(9, wordsC), (17, numberQC), (18, eHouseC), (19, outdoorC), (45, indoorC), (iceKey 9, iceC), (iceKey 11, iceC), (iceKey 13, iceC), (iceKey 15, iceC), (iceKey 17, iceC), (iceKey 19, iceC), (iceKey 28, iceC), (iceKey 34, iceC), (inlKey 12, iceC), (inlKey 16, iceC), (inlKey 20, iceC)]) (tab_ok ⟨eWords_ok, oNumQ_ok, eHouse_ok, hOutdoor_ok, hIndoor_ok, ice_holds, ice_holds, ice_holds, ice_holds, ice_holds, ice_holds, ice_holds, ice_holds, ice_holds, ice_holds, ice_holds, trivial⟩) G0_ok fun k0 rl args hpu hpre => ?_
  unfold eNumberC at hpre ⊢
  obtain rfl : _ = _ := hpre
  simp only [Proofs.Tryz.f7]
  rw [enter_mkT (Nat.le_of_ble_eq_true rfl)]
  simp (maxSteps := 4000000) only [go_sem, ↓upXAbsY, ↓upXAbsZa, ↓upXOffC, ↓callT_hide, ↓extT_hide]
  refine ⟨⟨⟨_, _, rfl, lit1_ok⟩, .inl (pu_litS [_])⟩, .inl fun hX2 => callH_clean (hp2 := updH (fun _ => none) (3, 1) (.cells [.nils])) ?_ (tmLe_refl _) (callT_vent4 (VEnt.refl _) (vent_rowI [1, 100000000]) (eAdd0_call hX2 (updH_same _ _ _) (by decide) (by decide) (by rw [updH_ne (by simp)]) (fun q hq => by rw [updH_ne (by rintro rfl; simp at hq)]) fun ck1 hck1 => ?_))⟩
  · exact HpLe.upd HpLe.none ⟨_, by simp [updH], ObjLe.refl _⟩
  have j1 : JAt (putJ (updH (fun _ => none) (3, 1) (.cells [.nils])) (3, 1) (4 + 1, 1000) [⟨1, [116, 121, 112, 101], [[106, 101, 116]], [1, 100000000], []⟩]) (3, 1) (4 + 1, 1000) [⟨1, [116, 121, 112, 101], [[106, 101, 116]], [1, 100000000], []⟩] ck1 :=
    ⟨putJ_box (by simp), putJ_ln, by omega, by omega, by simp, fun q hq => by rw [putJ_ne (by rintro rfl; omega) (by rintro rfl; omega), updH_ne (by rintro rfl; omega)], by decide⟩
  generalize putJ _ _ _ _ = S1 at j1 ⊢
  have h1 := j1.atb
  have h2 := j1.atl
  have g1 := fun d => j1.free (ck1 + 1, d) (Nat.lt_succ_self _)
  simp (maxSteps := 400000) only [go_sem, ↓upXAbsY, ↓upXAbsZa, ↓upXOffC, ↓callT_hide, ↓extT_hide, h1, h2, g1]
  refine ⟨⟨⟨_, _, rfl, lit1_ok⟩, .inl (pu_litS [_])⟩, .inl fun hX3 => callH_clean (hp2 := S1) (hpLe_up j1.free fun q hq => ?_) (tmLe_refl _) (callT_vent4 (VEnt.refl _) (vent_rowI [1, 500]) (eAdd_call hX3 (j1.mono (by omega)) fun ck2 hck2 => ?_))⟩
  · repeat rw [updH_ne (by rintro rfl; simp at hq; omega)]
  generalize hL2 : (_ : List Ev) ++ _ = L2
  have j2 := (j1.put (m := L2) (by rw [← hL2]; decide)).mono (ck' := ck2) (by omega)
  generalize putJ _ _ _ _ = S2 at j2 ⊢
  clear h1 h2 g1
  have h1 := j2.atb
  have h2 := j2.atl
  have g1 := fun d => j2.free (ck2 + 1, d) (Nat.lt_succ_self _)
  simp (maxSteps := 400000) only [go_sem, ↓upXAbsY, ↓upXAbsZa, ↓upXOffC, ↓callT_hide, ↓extT_hide, h1, h2, g1]
  refine ⟨⟨⟨_, _, rfl, two_ok⟩, .inl (pu_litS [_, _])⟩, .inl fun hX4 => callH_clean (hp2 := S2) (hpLe_up j2.free fun q hq => ?_) (tmLe_refl _) (callT_vent4 (VEnt.refl _) (vent_rowI [1, 5]) (eAdd_call hX4 (j2.mono (by omega)) fun ck3 hck3 => ?_))⟩
  · repeat rw [updH_ne (by rintro rfl; simp at hq; omega)]
  generalize hL3 : (_ : List Ev) ++ _ = L3
  have j3 := (j2.put (m := L3) (by rw [← hL3, ← hL2]; decide)).mono (ck' := ck3) (by omega)
  generalize putJ _ _ _ _ = S3 at j3 ⊢
  clear h1 h2 g1
  have h1 := j3.atb
  have h2 := j3.atl
  have g1 := fun d => j3.free (ck3 + 1, d) (Nat.lt_succ_self _)
  have g2 := fun d => j3.free (ck3 + 1 + 1, d) (by show ck3 < ck3 + 1 + 1; omega)
  have g3 := fun d => j3.free (ck3 + 1 + 1 + 1, d) (by show ck3 < ck3 + 1 + 1 + 1; omega)
  simp (maxSteps := 400000) only [go_sem, ↓upXAbsY, ↓upXAbsZa, ↓upXOffC, ↓callT_hide, ↓extT_hide, h1, h2, g1, g2, g3, Nat.zero_add]
  have e3 : L3 = exL := by rw [← hL3, ← hL2]; rfl
  have hnum : numE L3 [97] = (50000000, 67, 0) := by rw [e3]; exact exL_num
  have hE : ∀ e ∈ L3, EvB e := by rw [e3]; exact exL_ok
  have hlen := j3.len
  rw [hnum]
  have key : (∃ s n get, [V.str [97], V.sl 1 1 (rowAt [V.int .i64 50000000] 1)] = [V.str s, V.sl n 1 get] ∧ IsInts n get) ∧ (Pu (.sl 1 1 (rowAt [V.int .i64 50000000] 1)) ∨ NoSl (homeV [97] (gE 1 (rowAt [V.int .i64 50000000] 1)))) := ⟨⟨_, _, _, rfl, litI_ok⟩, .inl (pu_litI [_])⟩
  have key2 : ∃ s f, [homeV [97] (gE 1 (rowAt [V.int .i64 50000000] 1))] = [homeV s f] ∧ nameB s = true ∧ OutOk f := ⟨_, _, rfl, by decide, ex_out⟩
  refine ⟨⟨⟨L3, _, rfl, by omega, hE⟩, noSlT3⟩, key, key2, key, key2, fun _ => ⟨fun _ => ⟨fun _ => ⟨fun _ => VEnt.of_eq ?_, fun h => absurd ex_sum h⟩, fun h => absurd rfl h⟩, fun h => absurd rfl h⟩, fun h => absurd rfl h⟩
  rw [ex_sum]
  rfl
end Go.Fly.Tryz
