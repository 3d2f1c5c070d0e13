/- Part of a proof: an evaluator of the model's code by abstract values, and plain laws for it. No conditions. -/
import Derived.Test.YtfcdodaakhlppaaGreatDoorSYTPE
import Derived.Test.YtfcdodaakhlppaaGreatDoorAW
set_option linter.unusedSimpArgs false
set_option linter.unusedVariables false
section
/- Journals that a law writes, their rows written in any way: an event is added, a list is copied; what is accepted. -/
set_option maxRecDepth 100000
set_option maxHeartbeats 1000000
namespace Go.Fly.Tryz
open Go Off
theorem oAcceptsX_ok : Holds Proofs.Tryz.prog G0 12 acceptsXC := acceptsX_of oAcceptsQ_ok
theorem hBalX_ok : Holds Proofs.Tryz.prog G0 13 balXC := balX_of hBal_ok

theorem eAddR_call {Γ : FuncId → Option Contract} {r0 : Option Nat} {k0 : K} {H : Heap} {ck : Nat} {Kn : V → Heap → Nat → Prop} (hX : (⟨Proofs.Tryz.prog, Γ, G0, r0, k0⟩ : Cx).Ok) {box ln : Loc} {l : List Ev} {get : Nat → List V} {kind : Str} {names : List Str} {vals : List Int}
    (hJ : JAtR H box ln l get ck) (h9 : l.length < 1000)
    (hKn : ∀ S ck', ck ≤ ck' → JAtR S box ln (l ++ [⟨(l.length : Int) + 1, kind, names, vals, []⟩]) (snocG l.length get (encEv ⟨(l.length : Int) + 1, kind, names, vals, []⟩)) ck' → (∀ q : Loc, ¬ q = box → ¬ q = ln → S q = H q) → Kn (.tup []) S ck') :
    CallT ⟨Proofs.Tryz.prog, Γ, G0, r0, k0⟩ H ck 8 [.ptr box 0, .str kind, encStrs names, encInts vals] Kn := by
  obtain ⟨hb, hl, hrow, hlo1, hlo2, hne, hf, hn⟩ := id hJ
  have f1 := fun d => hf (ck + 1, d) (by show ck < ck + 1; omega)
  have f2 := fun d => hf (ck + 1 + 1, d) (by show ck < ck + 1 + 1; omega)
  have f3 := fun d => hf (ck + 1 + 1 + 1, d) (by show ck < ck + 1 + 1 + 1; omega)
  have e2 := fun d => freshF (l := ln) (ck := ck) (c := ck + 1 + 1) (d := d) hlo2 (by omega)
  have e3 := fun d => freshG (l := ln) (ck := ck) (c := ck + 1 + 1) (d := d) hlo2 (by omega)
  have e4 := fun d => freshF (l := box) (ck := ck) (c := ck + 1 + 1) (d := d) hlo1 (by omega)
  have e5 := fun d => freshG (l := box) (ck := ck) (c := ck + 1 + 1) (d := d) hlo1 (by omega)
  have hne2 : ¬ ln = box := fun q => hne q.symm
  have hlen : (l ++ [⟨(l.length : Int) + 1, kind, names, vals, []⟩] : List Ev).length = l.length + 1 := by rw [List.length_append]; rfl
  refine CallT.less (CallT.inline hX Proofs.Tryz.func8 rfl foll (D := D8) (by kernel_rfl) (tab []) (tab_ok trivial) fun k1 => ?_)
  simp only [Proofs.Tryz.f8]
  rw [app_mkT (Nat.le_of_ble_eq_true rfl)]
  simp (maxSteps := 400000) only [go_sem, ↓upXAbsY, ↓upXAbsZa, ↓upXOffC, hb, hl, f1, f2, f3, e2, e3, e4, e5, hne, hne2, Nat.zero_add, encStrs, encInts]
  refine ⟨inK_of (by omega) (by omega), ⟨by omega, by omega, row_ok0 rfl (ones_ev ⟨(l.length : Int) + 1, kind, names, vals, []⟩)⟩,
    updH (updH H box (.cells [.msl ln 0 (l.length + 1)])) ln (.arr (l.length + 1) 5 (snocG l.length get (encEv ⟨(l.length : Int) + 1, kind, names, vals, []⟩))), fun q o ho => ?_, hKn _ _ (by omega) ⟨?_, ?_, snocG_row hrow (rowOk_enc _), by omega, by omega, hne, fun q hq => ?_, by rw [hlen]; omega⟩ fun q q1 q2 => ?_⟩
  · by_cases q1 : q = ln
    · subst q1
      rw [updH_same] at ho
      cases ho
      exact ⟨_, by rw [updH_ne hne2, updH_same]; rfl, ObjLe.refl _⟩
    rw [updH_ne q1] at ho
    by_cases q2 : q = box
    · subst q2
      rw [updH_same] at ho
      cases ho
      exact ⟨_, updH_same _ _ _, ObjLe.refl _⟩
    rw [updH_ne q2] at ho
    refine ⟨o, ?_, ObjLe.refl _⟩
    rw [updH_ne q2, updH_ne q1, updH_ne (by rintro rfl; rw [f2] at ho; cases ho)]
    exact ho
  · rw [updH_ne hne, updH_same, hlen]
  · rw [updH_same, hlen]
  · rw [updH_ne (by rintro rfl; omega), updH_ne (by rintro rfl; omega)]
    exact hf q (by omega)
  · rw [updH_ne q2, updH_ne q1]

theorem eOwnR_call {Γ : FuncId → Option Contract} {r0 : Option Nat} {k0 : K} {H : Heap} {ck : Nat} {Kn : V → Heap → Nat → Prop} (hX : (⟨Proofs.Tryz.prog, Γ, G0, r0, k0⟩ : Cx).Ok) {ln : Loc} {l : List Ev} {get : Nat → List V}
    (hl : H ln = some (.arr l.length 5 get)) (hrow : ∀ i, i < l.length → RowOk (el l i) (get i)) (hlo : ln.1 ≤ ck) (hf : ∀ q : Loc, ck < q.1 → H q = none) (hn : l.length ≤ 1000) (hB : ∀ e ∈ l, e.names.length ≤ 1000000 ∧ e.vals.length ≤ 1000000)
    (hKn : ∀ ck', ck ≤ ck' → Kn (encRows 5 encEv l) H ck') :
    CallT ⟨Proofs.Tryz.prog, Γ, G0, r0, k0⟩ H ck 11 [.msl ln 0 l.length] Kn := by
  have f1 := fun d => hf (ck + 1, d) (by show ck < ck + 1; omega)
  have f2 := fun d => hf (ck + 1 + 1, d) (by show ck < ck + 1 + 1; omega)
  have f3 := fun d => hf (ck + 1 + 1 + 1, d) (by show ck < ck + 1 + 1 + 1; omega)
  refine callT_killV (CallT.inline hX Proofs.Tryz.func11 rfl foll (D := D11) (by kernel_rfl) (tab []) (tab_ok trivial) fun k1 => ?_)
  simp only [Proofs.Tryz.f11]
  rw [app_mkT (Nat.le_of_ble_eq_true rfl)]
  simp (maxSteps := 400000) only [go_sem, ↓upXAbsY, ↓upXAbsZa, ↓upXOffC, hl, f1, f2, f3]
  have hc : ∀ d, H (ck + 1 + 1 + 1 + 1, d) = none := fun d => hf (ck + 1 + 1 + 1 + 1, d) (by show ck < _; omega)
  have hnl : ¬ ln = (ck + 1 + 1 + 1 + 1, 1000) := by rintro rfl; simp at hlo; omega
  refine ⟨by omega, RestT.ents (Ents.nilArr (d := 3) (l := (ck + 1 + 1 + 1 + 1, 1000)) 5 (fun _ => []) rfl (hc _) rfl) ?_⟩
  simp (maxSteps := 400000) only [go_sem, ↓upXAbsY, ↓upXAbsZa, ↓upXOffC]
  refine RestT.loopF (β := Nat) [(3, 3), (5, 5), (8, 26)] (fun i => [(3, .msl (ck + 1 + 1 + 1 + 1, 1000) 0 i), (8, .int .i64 i)]) (fun i => updH H (ck + 1 + 1 + 1 + 1, 1000) (.arr i 5 get)) (fun i => i ≤ l.length) (fun i => l.length - i) 0 (Nat.zero_le _) ?_ (HpLe.same ⟨rfl, rfl, fun i hi => absurd hi (Nat.not_lt_zero i)⟩) ?_
  · simp (maxSteps := 400000) only [go_sem, ↓upXAbsY, ↓upXAbsZa, ↓upXOffC]
    try exact rfl
  · intro c i hck hi
    have hi : i ≤ l.length := hi
    generalize hq0 : exC _ _ _ _ _ = gg
    have hln : ∀ o, updH H (ck + 1 + 1 + 1 + 1, 1000) o ln = some (.arr l.length 5 get) := fun o => by rw [updH_ne hnl, hl]
    by_cases hlt : i < l.length
    · have hd : decide ((i : Int) < (l.length : Int)) = true := by simp; omega
      obtain ⟨b1, b2⟩ := hB _ (el_mem hlt)
      have hon := (hrow i hlt).ones
      obtain ⟨r1, r2, hg, q1, q2⟩ := hrow i hlt
      have hgl : (get i).length = 5 := by rw [hg]; rfl
      have g1 := fun d => hf (c + 1, d) (by show ck < c + 1; omega)
      have g2 := fun d => hf (c + 1 + 1, d) (by show ck < c + 1 + 1; omega)
      have g3 := fun d => hf (c + 1 + 1 + 1, d) (by show ck < c + 1 + 1 + 1; omega)
      have g4 := fun d => hf (c + 1 + 1 + 1 + 1, d) (by show ck < c + 1 + 1 + 1 + 1; omega)
      have g5 := fun d => hf (c + 1 + 1 + 1 + 1 + 1, d) (by show ck < c + 1 + 1 + 1 + 1 + 1; omega)
      have hpu1 : Pu (.sl (el l i).names.length 1 r1) ↔ True := iff_true_intro (pu_sl.2 fun j hj v hv => by rw [q1 j hj] at hv; rw [List.mem_singleton.1 hv]; exact .str _)
      have hpu2 : Pu (.sl (el l i).vals.length 1 r2) ↔ True := iff_true_intro (pu_sl.2 fun j hj v hv => by rw [q2 j hj] at hv; rw [List.mem_singleton.1 hv]; exact .int _ _)
      rw [← hq0]
      clear hq0
      simp (maxSteps := 400000) only [go_sem, ↓upXAbsY, ↓upXAbsZa, ↓upXOffC, hd, hln, hg, hpu1, hpu2, g1, g2, g3, g4, g5, Nat.zero_add, Nat.not_lt_zero, if_false, Nat.sub_zero]
      rw [hg] at hon
      refine ⟨⟨by omega, by omega⟩, ⟨by omega, by omega, fun j hj v hv => ?_⟩, ⟨by omega, by omega, fun j hj v hv => ?_⟩, ⟨by omega, by omega, row_ok0 rfl hon⟩, inK_of (by omega) (by omega), by omega, i + 1, hlt, by omega, ⟨rfl, rfl⟩, hpLe_low hf (fun q hq => ?_) (o := .arr (i + 1) 5 fun j => if j < i then get j else rowAt (get i) 5 (0 + (j - i))) ?_ ⟨rfl, rfl, fun j hj => snoc (f := get) hgl rfl hj⟩⟩
      · rw [q1 j hj] at hv; rw [List.mem_singleton.1 hv]; exact ⟨.str _, rfl⟩
      · rw [q2 j hj] at hv; rw [List.mem_singleton.1 hv]; exact ⟨.int _ _, rfl⟩
      · repeat rw [updH_ne (by rintro rfl; simp at hq; omega)]
      · simp [updH, hg]
    · have hd : decide ((i : Int) < (l.length : Int)) = false := by simp; omega
      obtain rfl : i = l.length := by omega
      rw [← hq0]
      clear hq0
      simp (maxSteps := 400000) only [go_sem, ↓upXAbsY, ↓upXAbsZa, ↓upXOffC, hd]
      exact ⟨(ck + 1 + 1 + 1 + 1, 1000), l.length, 5, get, H, encRows 5 encEv l, rfl, if_pos rfl, fun i j v hi hv => (hrow i hi).ones.pu v (List.mem_of_getElem? hv), hc _, HpLe.drop (hc _), vent_evs hrow, hKn _ (by omega)⟩
end Go.Fly.Tryz
end
section
/- The law on the fund. -/
set_option maxRecDepth 100000
set_option maxHeartbeats 1000000
namespace Go.Fly.Tryz
open Go Off

theorem tFund_ok : Holds Proofs.Tryz.prog G0 3 fundC := by
  refine Holds.of_exC D3 Proofs.Tryz.func3 rfl foll (by kernel_rfl) (tab [(7, eNumberC), (9, wordsC), (10, text1C), (12, acceptsXC), (13, balXC), (14, replayC), (iceKey 27, iceC), (iceKey 29, iceC), (iceKey 37, iceC), (iceKey 39, iceC), (iceKey 42, iceC), (iceKey 44, iceC), (iceKey 46, iceC), (iceKey 48, iceC), (iceKey 84, iceC), (iceKey 86, iceC), (iceKey 94, iceC), (iceKey 95, iceC), (iceKey 121, iceC), (inlKey 30, iceC), (inlKey 40, iceC), (inlKey 45, iceC), (inlKey 49, iceC), (inlKey 68, iceC), (inlKey 98, iceC), (inlKey 108, iceC), (inlKey 122, iceC), (inlKey 151, iceC)]) (tab_ok ⟨eNumber_ok, eWords_ok, qText_ok, oAcceptsX_ok, hBalX_ok, oReplayQ_ok, ice_holds, ice_holds, ice_holds, ice_holds, ice_holds, ice_holds, ice_holds, ice_holds, ice_holds, ice_holds, ice_holds, ice_holds, ice_holds, ice_holds, ice_holds, ice_holds, ice_holds, ice_holds, ice_holds, ice_holds, ice_holds, ice_holds, trivial⟩) G0_ok fun k0 rl args hpu hpre => ?_
  unfold fundC at hpre ⊢
  obtain ⟨n, get, o, h, a, rfl, hok⟩ := hpre
  have hpu := hok.pu
  by_cases c8 : 8 < n
  · have d8 : decide ((8 : Int) < (n : Int)) = true := decide_eq_true (by omega)
    simp only [Proofs.Tryz.f3]
    rw [enter_mkT (Nat.le_of_ble_eq_true rfl)]
    simp (maxSteps := 4000000) only [go_sem, ↓upXAbsY, ↓upXAbsZa, ↓upXOffC, ↓callT_hide, ↓extT_hide, d8, hpu]
    exact VEnt.refl _
  · have d8 : decide ((8 : Int) < (n : Int)) = false := decide_eq_false (by omega)
    simp only [Proofs.Tryz.f3]
    rw [enter_mkT (Nat.le_of_ble_eq_true rfl)]
    simp (maxSteps := 4000000) only [go_sem, ↓upXAbsY, ↓upXAbsZa, ↓upXOffC, ↓callT_hide, ↓extT_hide, d8, hpu]
    refine ⟨⟨⟨_, _, rfl, lit1_ok⟩, .inl (pu_litS [_])⟩, .inl fun hX2 => callH_clean (hp2 := updH (fun _ => none) (4, 3) (.cells [.nils])) (HpLe.upd HpLe.none ⟨_, by simp [updH], ObjLe.refl _⟩) (tmLe_refl _) (callT_vent4 (VEnt.refl _) (vent_rowI [1, 100000000]) (eAdd0_call hX2 (updH_same _ _ _) (by decide) (by decide) (by rw [updH_ne (by simp)]) (fun q hq => by rw [updH_ne (by rintro rfl; simp at hq)]) fun ck1 hck1 => ?_))⟩
    have j1 : JAt (putJ (updH (fun _ => none) (4, 3) (.cells [.nils])) (4, 3) (5 + 1, 1000) [⟨1, [116, 121, 112, 101], [[106, 101, 116]], [1, 100000000], []⟩]) (4, 3) (6, 1000) [⟨1, [116, 121, 112, 101], [[106, 101, 116]], [1, 100000000], []⟩] ck1 :=
      ⟨putJ_box (by simp), putJ_ln, by omega, by omega, by simp, fun q hq => by rw [putJ_ne (by rintro rfl; omega) (by rintro rfl; omega), updH_ne (by rintro rfl; omega)], by decide⟩
    generalize putJ _ _ _ _ = S1 at j1 ⊢
    simp (maxSteps := 400000) only [go_sem, ↓upXAbsY, ↓upXAbsZa, ↓upXOffC, ↓callT_hide, ↓extT_hide]
    refine RestT.loopG (β := JB) [(4, 4), (31, 41)] (fun b => [(31, .int .i64 b.i)]) (fun b => b.S) (fun c b => JInv (4, 3) (6, 1000) c b) (fun b => 3 - b.i) ⟨S1, _, 0⟩ ⟨j1.mono (by omega), Nat.zero_le _, rfl⟩ ?_ (HpLe.refl _) ?_
    · simp (maxSteps := 400000) only [go_sem, ↓upXAbsY, ↓upXAbsZa, ↓upXOffC]
      try exact rfl
    intro c b hck hI
    obtain ⟨S, L, i⟩ := b
    obtain ⟨hat, hle, heq⟩ := hI
    have hat : JAt S (4, 3) (6, 1000) L c := hat
    have hle : i ≤ 3 := hle
    have heq : L = fbase.take (1 + i) := heq
    have h1 := hat.atb
    have h2 := hat.atl
    have g1 := fun d => hat.free (c + 1, d) (Nat.lt_succ_self _)
    have g2 := fun d => hat.free (c + 1 + 1, d) (by show c < c + 1 + 1; omega)
    have g3 := fun d => hat.free (c + 1 + 1 + 1, d) (by show c < c + 1 + 1 + 1; omega)
    generalize hq0 : exC _ _ _ _ _ = gg
    by_cases hi : i < 3
    · have hd : decide ((i : Int) < 3) = true := decide_eq_true (by omega)
      rw [← hq0]
      clear hq0
      simp (maxSteps := 400000) only [go_sem, ↓upXAbsY, ↓upXAbsZa, ↓upXOffC, ↓callT_hide, ↓extT_hide, hd, h1, h2, g1, g2, g3]
      refine ⟨⟨_, rfl, by omega, by omega⟩, by rw [dig_len]; decide, ⟨⟨_, _, rfl, lit1_ok⟩, .inl (pu_litS [_])⟩, .inl fun hX3 => callH_clean (hp2 := S) (hpLe_up hat.free fun q hq => ?_) (tmLe_refl _) (callT_vent4 (VEnt.refl _) (vent_rowI [1, 1000]) (eAdd_call hX3 (hat.mono (by omega)) fun ck2 hck2 => ?_))⟩
      · repeat rw [updH_ne (by rintro rfl; simp at hq; omega)]
      generalize hL2 : L ++ _ = L2
      have hL2' := house_step hi heq hL2
      have j2 := (hat.put (m := L2) (by rw [hL2', List.length_take]; exact Nat.le_trans (Nat.min_le_right _ _) (by decide))).mono (ck' := ck2) (by omega)
      generalize putJ _ _ _ _ = S2 at j2 ⊢
      simp (maxSteps := 400000) only [go_sem, ↓upXAbsY, ↓upXAbsZa, ↓upXOffC, ↓callT_hide, ↓extT_hide]
      exact ⟨inK_of (by omega) (by omega), by omega, ⟨S2, L2, i + 1⟩, ⟨j2.mono (by omega), hi, hL2'⟩, by show 3 - (i + 1) < 3 - i; omega, rfl, HpLe.refl _⟩
    · have hd : decide ((i : Int) < 3) = false := decide_eq_false (by omega)
      obtain rfl : i = 3 := by omega
      rw [← hq0]
      clear hq0
      simp (maxSteps := 400000) only [go_sem, ↓upXAbsY, ↓upXAbsZa, ↓upXOffC, ↓callT_hide, ↓extT_hide, hd]
      refine ⟨_, fun x y q => q, ?_⟩
      simp (maxSteps := 400000) only [go_sem, ↓upXAbsY, ↓upXAbsZa, ↓upXOffC, ↓callT_hide, ↓extT_hide, h1, h2, g1, g2, g3]
      refine ⟨⟨⟨_, _, rfl, two_ok⟩, .inl (pu_litS [_, _])⟩, .inl fun hX3 => callH_clean (hp2 := S) (hpLe_up hat.free fun q hq => ?_) (tmLe_refl _) (callT_vent4 (VEnt.refl _) (vent_rowI [1, 5]) (eAdd_call hX3 (hat.mono (by omega)) fun ck2 hck2 => ?_))⟩
      · repeat rw [updH_ne (by rintro rfl; simp at hq; omega)]
      generalize hL2 : L ++ _ = L2
      have hL2' := flight_step heq hL2
      have j2 := (hat.put (m := L2) (by rw [hL2']; decide)).mono (ck' := ck2) (by omega)
      generalize putJ _ _ _ _ = S2 at j2 ⊢
      clear h1 h2 g1 g2 g3
      have h1 := j2.atb
      have h2 := j2.atl
      have g1 := fun d => j2.free (ck2 + 1, d) (Nat.lt_succ_self _)
      simp (maxSteps := 400000) only [go_sem, ↓upXAbsY, ↓upXAbsZa, ↓upXOffC, ↓callT_hide, ↓extT_hide, h1, h2, g1]
      refine ⟨⟨⟨_, _, rfl, lit1_ok⟩, .inl (pu_litS [_])⟩, .inl fun hX4 => callH_clean (hp2 := S2) (hpLe_up j2.free fun q hq => ?_) (tmLe_refl _) (callT_vent4 (VEnt.refl _) (vent_rowI [1]) (eAdd_call hX4 (j2.mono (by omega)) fun ck3 hck3 => ?_))⟩
      · repeat rw [updH_ne (by rintro rfl; simp at hq; omega)]
      generalize hL3 : L2 ++ _ = L3
      have hL3' := publish_step hL2' hL3
      have j3 := (j2.put (m := L3) (by rw [hL3']; decide)).mono (ck' := ck3) (by omega)
      generalize putJ _ _ _ _ = S3 at j3 ⊢
      clear h1 h2 g1
      subst hL3'
      simp (maxSteps := 400000) only [go_sem, ↓upXAbsY, ↓upXAbsZa, ↓upXOffC, ↓callT_hide, ↓extT_hide, hpu]
      have T1 : ¬ (ck3 + 1 + 1, 1000) = ((4, 3) : Loc) := by simp
      have T2 : ¬ (ck3 + 1 + 1, 1000) = ((6, 1000) : Loc) := by simp; omega
      refine RestT.ents (Ents.nilArr (d := 5) (l := (ck3 + 1 + 1, 1000)) 3 (fun i => encBE (el [] i)) rfl (j3.free _ (by show ck3 < ck3 + 1 + 1; omega)) rfl) ?_
      simp (maxSteps := 400000) only [go_sem, ↓upXAbsY, ↓upXAbsZa, ↓upXOffC]
      have jT : JAt (updH S3 (ck3 + 1 + 1, 1000) (.arr 0 3 fun i => encBE (el [] i))) (4, 3) (6, 1000) fbase (ck3 + 1 + 1 + 1) :=
        ⟨by rw [updH_ne (fun q => T1 q.symm)]; exact j3.atb, by rw [updH_ne (fun q => T2 q.symm)]; exact j3.atl, by show 4 ≤ _; omega, by show 6 ≤ _; omega, by decide, fun q hq => by rw [updH_ne (fun e => by subst e; exact absurd hq (by show ¬ _ < ck3 + 1 + 1; omega))]; exact j3.free q (by omega), by decide⟩
      refine RestT.loopG (β := FB) [(2, 2), (5, 18), (52, 168)] (fun b => [(5, .msl (ck3 + 1 + 1, 1000) 0 b.told.length), (52, .int .i64 b.k)]) (fun b => b.S) (fun c b => FBInv (4, 3) (6, 1000) (ck3 + 1 + 1, 1000) n c b) (fun b => n - b.k) ⟨updH S3 (ck3 + 1 + 1, 1000) (.arr 0 3 fun i => encBE (el [] i)), fbase, _, [], 0, [], 0⟩
        ⟨jT.rep, updH_same _ _ _, by show ck3 + 1 + 1 ≤ _; omega, FInv.init, TInv.init, Nat.zero_le _, fun y hy => (by cases hy)⟩ ?_ (HpLe.refl _) ?_
      · simp (maxSteps := 400000) only [go_sem, ↓upXAbsY, ↓upXAbsZa, ↓upXOffC]
        try exact ⟨rfl, rfl⟩
      have k5 : 5 ≤ ck3 := by omega
      clear hck hat hle heq j2 j3 hX2 hX3 hX4 hL2 hL3 hL2' j1
      clear hck1 hck2
      intro c b hck hI
      obtain ⟨S, L, gt, of, fd, td, k⟩ := b
      obtain ⟨hat, htd, hlo, hfi, hti, hle, hom⟩ := hI
      have hom : ∀ y ∈ td, y.home.length ≤ 1000000 := hom
      have hat : JAtR S (4, 3) (6, 1000) L gt c := hat
      have htd : S (ck3 + 1 + 1, 1000) = some (.arr td.length 3 fun i => encBE (el td i)) := htd
      have hfi : FInv L of fd k := hfi
      have hti : TInv td of fd k := hti
      have hle : k ≤ n := hle
      have h1 := hat.atb
      have h2 := hat.atl
      have g1 := fun d => hat.free (c + 1, d) (Nat.lt_succ_self _)
      have g2 := fun d => hat.free (c + 1 + 1, d) (by show c < c + 1 + 1; omega)
      have g3 := fun d => hat.free (c + 1 + 1 + 1, d) (by show c < c + 1 + 1 + 1; omega)
      have g4 := fun d => hat.free (c + 1 + 1 + 1 + 1, d) (by show c < c + 1 + 1 + 1 + 1; omega)
      generalize hq0 : exC _ _ _ _ _ = gg
      by_cases hlt : k < n
      · have hd : decide ((k : Int) < (n : Int)) = true := decide_eq_true (by omega)
        obtain ⟨hrow, hh, ha⟩ := hok.row k hlt
        generalize h k = hk at hrow hh
        generalize a k = ak at hrow ha
        obtain ⟨i3, hi3, hm3⟩ := u8i hh
        cases hok' : o k with
        | true =>
          rw [hok'] at hrow
          rw [← hq0]
          clear hq0
          simp (maxSteps := 400000) only [go_sem, ↓upXAbsY, ↓upXAbsZa, ↓upXOffC, ↓callT_hide, ↓extT_hide, hd, hpu, hrow, hm3, w864, w1664, if_true, h1, h2, htd, g1, g2, g3, g4]
          have j7 : JAtR (updH S (c + 1 + 1, 7) (.cells [.bool true, .int .u8 hk, .int .u16 ak])) (4, 3) (6, 1000) L gt (c + 1 + 1 + 1 + 1 + 1) := hat.upd (by show c < c + 1 + 1; omega) (by show c + 1 + 1 ≤ _; omega)
          have htd7 : updH S (c + 1 + 1, 7) (.cells [.bool true, .int .u8 hk, .int .u16 ak]) (ck3 + 1 + 1, 1000) = some (.arr td.length 3 fun i => encBE (el td i)) := by rw [updH_ne (by simp)]; exact htd
          have h7 : updH S (c + 1 + 1, 7) (.cells [.bool true, .int .u8 hk, .int .u16 ak]) (c + 1 + 1, 7) = some (.cells [.bool true, .int .u8 hk, .int .u16 ak]) := updH_same _ _ _
          refine ⟨⟨by omega, by omega⟩, inK_of (by omega) (by omega), ⟨_, rfl, by omega, by omega⟩, by rw [dig_len]; decide, inK_of (by omega) (by omega), inK_of (by omega) (by omega), .inl fun hX2 => callH_clean (hp2 := updH S (c + 1 + 1, 7) (.cells [.bool true, .int .u8 hk, .int .u16 ak])) (HpLe.again (ObjLe.refl _)) (tmLe_refl _) (eOwnR_call hX2 j7.atl j7.row j7.lo2 j7.free j7.len (evb_lens hfi.evb) fun ck4 hck4 => ?_)⟩
          generalize updH S (c + 1 + 1, 7) _ = S7 at j7 htd7 h7 ⊢
          clear h1 h2 g1 g2 g3 g4 hX2
          have j7 := j7.mono hck4
          have h1 := j7.atb
          have h2 := j7.atl
          have g1 := fun d => j7.free (ck4 + 1, d) (Nat.lt_succ_self _)
          have g2 := fun d => j7.free (ck4 + 1 + 1, d) (by show ck4 < ck4 + 1 + 1; omega)
          have g3 := fun d => j7.free (ck4 + 1 + 1 + 1, d) (by show ck4 < ck4 + 1 + 1 + 1; omega)
          have g4 := fun d => j7.free (ck4 + 1 + 1 + 1 + 1, d) (by show ck4 < ck4 + 1 + 1 + 1 + 1; omega)
          have g5 := fun d => j7.free (ck4 + 1 + 1 + 1 + 1 + 1, d) (by show ck4 < ck4 + 1 + 1 + 1 + 1 + 1; omega)
          have g6 := fun d => j7.free (ck4 + 1 + 1 + 1 + 1 + 1 + 1, d) (by show ck4 < ck4 + 1 + 1 + 1 + 1 + 1 + 1; omega)
          have k4 : ¬ ck3 = 4 := by omega
          simp (maxSteps := 400000) only [go_sem, ↓upXAbsY, ↓upXAbsZa, ↓upXOffC, ↓callT_hide, ↓extT_hide, h1, h2, h7, htd7, g1, g2, g3, g4, g5, g6, k4, Nat.zero_add]
          have hA : 1 ≤ 1 + ak ∧ 1 + ak ≤ 65536 := by omega
          have hk8 : k < 8 := by omega
          have htl := told_len hti
          have hLl := hfi.len
          obtain ⟨x, hx⟩ : ∃ x : BE, x = ⟨false, hN i3, 1 + ak⟩ := ⟨_, rfl⟩
          refine ⟨⟨by omega, by omega, row_ok0 rfl (ones_be ⟨false, 104 :: dig (i3 : Int), 1 + ak⟩)⟩, inK_of (by omega) (by omega), ⟨_, rfl, by omega, by omega⟩, by rw [dig_len]; decide, inK_of (by omega) (by omega), ⟨_, rfl, by omega, by omega⟩, by rw [dig_len]; decide, ?_⟩
          generalize hS8 : updH (updH _ (ck4 + 1 + 1 + 1 + 1 + 1, 13) _) (ck4 + 1 + 1 + 1 + 1 + 1, 13) _ = S8
          have j8 : JAtR S8 (4, 3) (6, 1000) L gt (ck4 + 1 + 1 + 1 + 1 + 1 + 1) := ⟨by rw [← hS8]; simp (maxSteps := 400000) only [go_sem, ↓upXAbsY, ↓upXAbsZa, ↓upXOffC, h1, k4], by rw [← hS8]; simp (maxSteps := 400000) only [go_sem, ↓upXAbsY, ↓upXAbsZa, ↓upXOffC, h2, k4], j7.row, by show 4 ≤ _; omega, by show 6 ≤ _; omega, by decide, fun q hq => by
            rw [← hS8]
            repeat rw [updH_ne (by rintro rfl; simp at hq; omega)]
            exact j7.free q (by omega), j7.len⟩
          have o8 : S8 (ck4 + 1 + 1 + 1 + 1, 12) = some (.cells [.int .i64 ((L.length : Int) + 1), .str [111, 102, 102, 101, 114], .sl 2 1 (rowAt [.str (111 :: dig (k : Int)), .str (104 :: dig (i3 : Int))] 1), .sl 2 1 (rowAt [.int .i64 1, .int .i64 (1 + ak)] 1), .str []]) := by rw [← hS8]; simp [updH]
          have p8 : S8 (ck4 + 1 + 1 + 1 + 1 + 1, 13) = some (.cells [.int .i64 ((L.length : Int) + 2), .str [112, 97, 121], .sl 1 1 (rowAt [.str (111 :: dig (k : Int))] 1), .sl 1 1 (rowAt [.int .i64 1] 1), .str []]) := by rw [← hS8]; simp [updH]
          obtain ⟨G, hG, hGp, t8⟩ : ∃ G, (∀ i, i < td.length + 1 → G i = encBE (el (td ++ [x]) i)) ∧ (∀ i, ∀ v ∈ G i, Pu v ∧ oneC v = true) ∧ S8 (ck3 + 1 + 1, 1000) = some (.arr (td.length + 1) 3 G) :=
            ⟨fun i => if i < td.length then encBE (el td i) else rowAt (encBE x) 3 (i - td.length), snocT_row, snocT_pu, by rw [← hS8, hx]; simp [updH, encBE]; rfl⟩
          clear hS8
          refine RdQ.of (encRows 5 encEv L) rfl rfl rfl en11 (.inl ((pu_evs L).2 trivial)) (fun hX2 => eOwnR_call hX2 j8.atl j8.row j8.lo2 j8.free j8.len (evb_lens hfi.evb) fun ck' _ => ⟨rfl, rfl⟩) ?_
          have hoff := hfi.off_at hk8 hi3 hA
          have hout := hti.out_at hk8 hi3 hA
          rw [← hx] at hout
          have hdG : decRows decBE (.sl (td.length + 1) 3 G) = td ++ [x] := dec_rowsG (by rw [List.length_append]; rfl) hG
          have hfz : ∀ n hp i, frzRow (frz (n + 1) hp) (G i) = G i := fun n hp i => frzRow_pu fun v hv => (hGp i v hv).1
          have b1 := j8.atb
          have b2 := j8.atl
          have m1 := fun d => j8.free (ck4 + 1 + 1 + 1 + 1 + 1 + 1 + 1, d) (by show ck4 + 1 + 1 + 1 + 1 + 1 + 1 < ck4 + 1 + 1 + 1 + 1 + 1 + 1 + 1; omega)
          have m2 := fun d => j8.free (ck4 + 1 + 1 + 1 + 1 + 1 + 1 + 1 + 1, d) (by show ck4 + 1 + 1 + 1 + 1 + 1 + 1 < ck4 + 1 + 1 + 1 + 1 + 1 + 1 + 1 + 1; omega)
          have m3 := fun d => j8.free (ck4 + 1 + 1 + 1 + 1 + 1 + 1 + 1 + 1 + 1, d) (by show ck4 + 1 + 1 + 1 + 1 + 1 + 1 < ck4 + 1 + 1 + 1 + 1 + 1 + 1 + 1 + 1 + 1; omega)
          have m4 := fun d => j8.free (ck4 + 1 + 1 + 1 + 1 + 1 + 1 + 1 + 1 + 1 + 1, d) (by show ck4 + 1 + 1 + 1 + 1 + 1 + 1 < ck4 + 1 + 1 + 1 + 1 + 1 + 1 + 1 + 1 + 1 + 1; omega)
          have m5 := fun d => j8.free (ck4 + 1 + 1 + 1 + 1 + 1 + 1 + 1 + 1 + 1 + 1 + 1, d) (by show ck4 + 1 + 1 + 1 + 1 + 1 + 1 < ck4 + 1 + 1 + 1 + 1 + 1 + 1 + 1 + 1 + 1 + 1 + 1; omega)
          have m6 := fun d => j8.free (ck4 + 1 + 1 + 1 + 1 + 1 + 1 + 1 + 1 + 1 + 1 + 1 + 1, d) (by show ck4 + 1 + 1 + 1 + 1 + 1 + 1 < ck4 + 1 + 1 + 1 + 1 + 1 + 1 + 1 + 1 + 1 + 1 + 1 + 1; omega)
          have m7 := fun d => j8.free (ck4 + 1 + 1 + 1 + 1 + 1 + 1 + 1 + 1 + 1 + 1 + 1 + 1 + 1, d) (by show ck4 + 1 + 1 + 1 + 1 + 1 + 1 < ck4 + 1 + 1 + 1 + 1 + 1 + 1 + 1 + 1 + 1 + 1 + 1 + 1 + 1; omega)
          have m8 := fun d => j8.free (ck4 + 1 + 1 + 1 + 1 + 1 + 1 + 1 + 1 + 1 + 1 + 1 + 1 + 1 + 1, d) (by show ck4 + 1 + 1 + 1 + 1 + 1 + 1 < ck4 + 1 + 1 + 1 + 1 + 1 + 1 + 1 + 1 + 1 + 1 + 1 + 1 + 1 + 1; omega)
          have hom2 : ∀ y ∈ td ++ [x], y.home.length ≤ 1000000 := fun y hy => by
            rcases List.mem_append.1 hy with hy | hy
            · exact hom y hy
            · rw [List.mem_singleton.1 hy, hx]; show 2 ≤ 1000000; decide
          have hbal : ∃ n get l, [V.sl (td.length + 1) 3 fun i => G i] = [V.sl n 3 get] ∧ n = l.length ∧ (∀ i, i < n → get i = encBE (el l i)) ∧ l.length ≤ 1000000 ∧ ∀ x ∈ l, x.home.length ≤ 1000000 :=
            ⟨_, G, td ++ [x], rfl, by rw [List.length_append]; rfl, hG, by rw [List.length_append]; simp only [List.length_cons, List.length_nil]; omega, hom2⟩
          have hacc : ∃ l e cs, [encRows 5 encEv L, V.agg [.int .i64 ((L.length : Int) + 1), .str [111, 102, 102, 101, 114], .sl 2 1 (rowAt [.str (111 :: dig (k : Int)), .str (104 :: dig (i3 : Int))] 1), .sl 2 1 (rowAt [.int .i64 1, .int .i64 (1 + ak)] 1), .str []]] = [encRows 5 encEv l, V.agg cs] ∧ RowOk e cs ∧ l.length ≤ 1000000 ∧ (∀ e ∈ l, EvB e) ∧ EvB e :=
            ⟨L, _, _, rfl, rowOff, by omega, hfi.evb, evb_of (oEv_ok (by omega) hk8 hi3 hA)⟩
          have hrows : ∀ i, i < td.length + 1 → ∀ v, v ∈ G i → (Pu v ∨ isMsl v = true) ∧ oneC v = true := fun i _ v hv => ⟨.inl (hGp i v hv).1, (hGp i v hv).2⟩
          by_cases q : of.any (fun x => decide (x.house = hN i3)) = true
          · rw [if_pos q] at hoff hout
            have hoff : acceptsE levelE L ⟨(L.length : Int) + 1, [111, 102, 102, 101, 114], [111 :: dig (k : Int), 104 :: dig (i3 : Int)], [1, 1 + ak], []⟩ = 31 := hoff
            simp (maxSteps := 400000) only [go_sem, ↓upXAbsY, ↓upXAbsZa, ↓upXOffC, ↓callT_hide, ↓extT_hide, b1, b2, o8, p8, t8, m1, m2, m3, m4, m5, m6, m7, m8, hoff, hfz, hdG, hout, Nat.zero_add, Nat.not_lt_zero, if_false, Nat.sub_zero]
            refine ⟨hacc, ⟨by omega, by omega, hrows⟩, ⟨hbal, noSlT2⟩, _, fun x y q => q, ?_⟩
            simp (maxSteps := 400000) only [go_sem, ↓upXAbsY, ↓upXAbsZa, ↓upXOffC, ↓callT_hide, ↓extT_hide]
            exact VEnt.refl _
          · rw [if_neg q] at hoff hout
            have q' : of.any (fun x => decide (x.house = hN i3)) = false := by simpa using q
            have hoff : acceptsE levelE L ⟨(L.length : Int) + 1, [111, 102, 102, 101, 114], [111 :: dig (k : Int), 104 :: dig (i3 : Int)], [1, 1 + ak], []⟩ = 0 := hoff
            simp (maxSteps := 400000) only [go_sem, ↓upXAbsY, ↓upXAbsZa, ↓upXOffC, ↓callT_hide, ↓extT_hide, b1, b2, o8, p8, t8, m1, m2, m3, m4, m5, m6, m7, m8, k4, hoff, hfz, hdG, hout, Nat.zero_add, Nat.not_lt_zero, if_false, Nat.sub_zero]
            refine ⟨hacc, ⟨pu_litS [_, _], pu_litI [_, _]⟩, ⟨by omega, by omega, row_ok0 rfl rowOff.ones⟩, ?_⟩
            obtain ⟨L9, hL9⟩ : ∃ L9, L9 = L ++ [offEv L.length k i3 (1 + ak)] := ⟨_, rfl⟩
            have hl9 : L9.length = L.length + 1 := by rw [hL9, len_snoc]
            generalize hS9 : updH (updH _ (6, 1000) _) (4, 3) _ = S9
            have j9 : JAtR S9 (4, 3) (6, 1000) L9 (snocG L.length gt [.int .i64 ((L.length : Int) + 1), .str [111, 102, 102, 101, 114], .sl 2 1 (rowAt [.str (111 :: dig (k : Int)), .str (104 :: dig (i3 : Int))] 1), .sl 2 1 (rowAt [.int .i64 1, .int .i64 (1 + ak)] 1), .str []]) (ck4 + 1 + 1 + 1 + 1 + 1 + 1 + 1 + 1 + 1) :=
              ⟨by rw [← hS9, updH_same, hl9], by rw [← hS9, updH_ne (by simp), updH_same, hl9]; rfl, by rw [hL9]; exact snocG_row j8.row rowOff, by show 4 ≤ _; omega, by show 6 ≤ _; omega, by decide, fun q hq => by
                rw [← hS9]
                repeat rw [updH_ne (by rintro rfl; simp at hq; omega)]
                exact j8.free q (by omega), by rw [hl9]; omega⟩
            have p9 : S9 (ck4 + 1 + 1 + 1 + 1 + 1, 13) = some (.cells [.int .i64 ((L.length : Int) + 2), .str [112, 97, 121], .sl 1 1 (rowAt [.str (111 :: dig (k : Int))] 1), .sl 1 1 (rowAt [.int .i64 1] 1), .str []]) := by rw [← hS9]; simp [updH, p8]
            have t9 : S9 (ck3 + 1 + 1, 1000) = some (.arr (td.length + 1) 3 G) := by rw [← hS9]; simp [updH, t8, k4]
            clear hS9
            have hev9 : ∀ e ∈ L9, EvB e := fun e he => by
              rw [hL9] at he
              rcases List.mem_append.1 he with he | he
              · exact hfi.evb e he
              · rw [List.mem_singleton.1 he]; exact evb_of (oEv_ok (by omega) hk8 hi3 hA)
            refine RdQ.of (encRows 5 encEv L9) rfl rfl rfl en11 (.inl ((pu_evs L9).2 trivial)) (fun hX2 => by
              have := eOwnR_call (Kn := fun r hp' _ => r = encRows 5 encEv L9 ∧ hp' = S9) hX2 j9.atl j9.row j9.lo2 j9.free j9.len (evb_lens hev9) fun ck' _ => ⟨rfl, rfl⟩
              rw [hl9] at this
              exact this) ?_
            have hpay := hfi.pay_at hk8 hi3 hA q'
            rw [← hL9] at hpay
            have hpacc : ∃ l e cs, [encRows 5 encEv L9, V.agg [.int .i64 ((L.length : Int) + 2), .str [112, 97, 121], .sl 1 1 (rowAt [.str (111 :: dig (k : Int))] 1), .sl 1 1 (rowAt [.int .i64 1] 1), .str []]] = [encRows 5 encEv l, V.agg cs] ∧ RowOk e cs ∧ l.length ≤ 1000000 ∧ (∀ e ∈ l, EvB e) ∧ EvB e :=
              ⟨L9, _, _, rfl, rowPay, by omega, hev9, evb_of (pEv_ok (by omega) hk8)⟩
            have b9 := j9.atb
            rw [hl9] at b9
            have c9 := j9.atl
            rw [hl9] at c9
            clear b1 b2 m1 m2 m3 m4 m5 m6 m7 m8
            have n1 := fun d => j9.free (ck4 + 1 + 1 + 1 + 1 + 1 + 1 + 1 + 1 + 1 + 1, d) (by show ck4 + 1 + 1 + 1 + 1 + 1 + 1 + 1 + 1 + 1 < ck4 + 1 + 1 + 1 + 1 + 1 + 1 + 1 + 1 + 1 + 1; omega)
            have n2 := fun d => j9.free (ck4 + 1 + 1 + 1 + 1 + 1 + 1 + 1 + 1 + 1 + 1 + 1, d) (by show ck4 + 1 + 1 + 1 + 1 + 1 + 1 + 1 + 1 + 1 < ck4 + 1 + 1 + 1 + 1 + 1 + 1 + 1 + 1 + 1 + 1 + 1; omega)
            have n3 := fun d => j9.free (ck4 + 1 + 1 + 1 + 1 + 1 + 1 + 1 + 1 + 1 + 1 + 1 + 1, d) (by show ck4 + 1 + 1 + 1 + 1 + 1 + 1 + 1 + 1 + 1 < ck4 + 1 + 1 + 1 + 1 + 1 + 1 + 1 + 1 + 1 + 1 + 1 + 1; omega)
            have n4 := fun d => j9.free (ck4 + 1 + 1 + 1 + 1 + 1 + 1 + 1 + 1 + 1 + 1 + 1 + 1 + 1, d) (by show ck4 + 1 + 1 + 1 + 1 + 1 + 1 + 1 + 1 + 1 < ck4 + 1 + 1 + 1 + 1 + 1 + 1 + 1 + 1 + 1 + 1 + 1 + 1 + 1; omega)
            have n5 := fun d => j9.free (ck4 + 1 + 1 + 1 + 1 + 1 + 1 + 1 + 1 + 1 + 1 + 1 + 1 + 1 + 1, d) (by show ck4 + 1 + 1 + 1 + 1 + 1 + 1 + 1 + 1 + 1 < ck4 + 1 + 1 + 1 + 1 + 1 + 1 + 1 + 1 + 1 + 1 + 1 + 1 + 1 + 1; omega)
            have n6 := fun d => j9.free (ck4 + 1 + 1 + 1 + 1 + 1 + 1 + 1 + 1 + 1 + 1 + 1 + 1 + 1 + 1 + 1, d) (by show ck4 + 1 + 1 + 1 + 1 + 1 + 1 + 1 + 1 + 1 < ck4 + 1 + 1 + 1 + 1 + 1 + 1 + 1 + 1 + 1 + 1 + 1 + 1 + 1 + 1 + 1; omega)
            have n7 := fun d => j9.free (ck4 + 1 + 1 + 1 + 1 + 1 + 1 + 1 + 1 + 1 + 1 + 1 + 1 + 1 + 1 + 1 + 1, d) (by show ck4 + 1 + 1 + 1 + 1 + 1 + 1 + 1 + 1 + 1 < ck4 + 1 + 1 + 1 + 1 + 1 + 1 + 1 + 1 + 1 + 1 + 1 + 1 + 1 + 1 + 1 + 1; omega)
            have n8 := fun d => j9.free (ck4 + 1 + 1 + 1 + 1 + 1 + 1 + 1 + 1 + 1 + 1 + 1 + 1 + 1 + 1 + 1 + 1 + 1, d) (by show ck4 + 1 + 1 + 1 + 1 + 1 + 1 + 1 + 1 + 1 < ck4 + 1 + 1 + 1 + 1 + 1 + 1 + 1 + 1 + 1 + 1 + 1 + 1 + 1 + 1 + 1 + 1 + 1; omega)
            by_cases q2 : fd < 1 + ak
            · rw [if_pos q2] at hpay hout
              have hpay : acceptsE levelE L9 ⟨(L.length : Int) + 2, [112, 97, 121], [111 :: dig (k : Int)], [1], []⟩ = 16 := hpay
              simp (maxSteps := 400000) only [go_sem, ↓upXAbsY, ↓upXAbsZa, ↓upXOffC, ↓callT_hide, ↓extT_hide, b9, c9, p9, t9, n1, n2, n3, n4, n5, n6, n7, n8, k4, hpay, hfz, hdG, hout, Nat.zero_add, Nat.not_lt_zero, if_false, Nat.sub_zero]
              refine ⟨hpacc, ⟨pu_litS [_], pu_litI [_]⟩, ⟨by omega, by omega, row_ok0 rfl (rowPay (n := L.length) (k := k)).ones⟩, ⟨by omega, by omega, hrows⟩, ⟨hbal, noSlT2⟩, _, fun x y q => q, ?_⟩
              simp (maxSteps := 400000) only [go_sem, ↓upXAbsY, ↓upXAbsZa, ↓upXOffC, ↓callT_hide, ↓extT_hide]
              exact VEnt.refl _
            · rw [if_neg q2] at hpay hout
              have hpay : acceptsE levelE L9 ⟨(L.length : Int) + 2, [112, 97, 121], [111 :: dig (k : Int)], [1], []⟩ = 0 := hpay
              simp (maxSteps := 400000) only [go_sem, ↓upXAbsY, ↓upXAbsZa, ↓upXOffC, ↓callT_hide, ↓extT_hide, b9, c9, p9, t9, n1, n2, n3, n4, n5, n6, n7, n8, k4, hpay, hfz, hdG, hout, Nat.zero_add, Nat.not_lt_zero, if_false, Nat.sub_zero]
              obtain ⟨L11, hL11⟩ : ∃ L11, L11 = L9 ++ [payEv L.length k] := ⟨_, rfl⟩
              have hl11 : L11.length = L.length + 1 + 1 := by rw [hL11, len_snoc, hl9]
              have hfi2 := hfi.pay_ok hk8 hi3 hA q' q2
              rw [← hL9, ← hL11] at hfi2
              have hti2 := hti.out_ok hk8 hi3 hA q' q2
              rw [← hx] at hti2
              obtain ⟨G11, hG11⟩ : ∃ G11, G11 = snocG (L.length + 1) (snocG L.length gt [.int .i64 ((L.length : Int) + 1), .str [111, 102, 102, 101, 114], .sl 2 1 (rowAt [.str (111 :: dig (k : Int)), .str (104 :: dig (i3 : Int))] 1), .sl 2 1 (rowAt [.int .i64 1, .int .i64 (1 + ak)] 1), .str []]) [.int .i64 ((L.length : Int) + 2), .str [112, 97, 121], .sl 1 1 (rowAt [.str (111 :: dig (k : Int))] 1), .sl 1 1 (rowAt [.int .i64 1] 1), .str []] := ⟨_, rfl⟩
              have hrow11 : ∀ i, i < L11.length → RowOk (el L11 i) (G11 i) := by
                rw [hL11, hG11, ← hl9]
                exact snocG_row (by have := j9.row; exact this) rowPay
              obtain ⟨S11, hS11⟩ : ∃ S11, S11 = updH (updH (updH S9 (6, 1000) (.arr (L.length + 1 + 1) 5 G11)) (4, 3) (.cells [.msl (6, 1000) 0 (L.length + 1 + 1)])) (ck3 + 1 + 1, 1000) (.arr (td.length + 1) 3 fun i => encBE (el (td ++ [x]) i)) := ⟨_, rfl⟩
              have T3 : ¬ ((6, 1000) : Loc) = (ck3 + 1 + 1, 1000) := fun e => T2 e.symm
              have T4 : ¬ ((4, 3) : Loc) = (ck3 + 1 + 1, 1000) := fun e => T1 e.symm
              have j11 : JAtR S11 (4, 3) (6, 1000) L11 G11 (ck4 + 1 + 1 + 1 + 1 + 1 + 1 + 1 + 1 + 1) :=
                ⟨by rw [hS11, updH_ne T4, updH_same, hl11], by rw [hS11, updH_ne T3, updH_ne (by simp), updH_same, hl11], hrow11, by show 4 ≤ _; omega, by show 6 ≤ _; omega, by decide, fun q hq => by
                  rw [hS11, updH_ne (by rintro rfl; simp at hq; omega), updH_ne (by rintro rfl; simp at hq; omega), updH_ne (by rintro rfl; simp at hq; omega)]
                  exact j9.free q hq, by rw [hl11]; omega⟩
              have t11 : S11 (ck3 + 1 + 1, 1000) = some (.arr (td ++ [x]).length 3 fun i => encBE (el (td ++ [x]) i)) := by rw [hS11, updH_same, len_snoc]
              have hev11 := hfi2.evb
              refine ⟨hpacc, ⟨pu_litS [_], pu_litI [_]⟩, ⟨by omega, by omega, row_ok0 rfl (rowPay (n := L.length) (k := k)).ones⟩, ⟨by omega, by omega, hrows⟩, ⟨hbal, noSlT2⟩, .inl fun hX3 => callH_clean (hp2 := S11) ?_ (tmLe_refl _) ?_⟩
              · rw [hS11]
                refine hpLe_three (ck := ck4 + 1 + 1 + 1 + 1 + 1 + 1 + 1 + 1 + 1) j9.free (fun q hq r1 r2 r3 => ?_) ⟨_, by rw [updH_ne (by simp), updH_ne (by simp), updH_ne (by simp), updH_same], by rw [hG11]; exact ⟨rfl, rfl, fun i hi => rfl⟩⟩ ⟨_, by rw [updH_ne (by simp), updH_ne (by simp), updH_same], ObjLe.refl _⟩ ⟨.arr (td.length + 1) 3 G, by rw [updH_ne (by simp), updH_ne (by simp), updH_ne T1, updH_ne T2, updH_ne (by simp)]; exact t9, rfl, rfl, fun i hi => (hG i hi).symm⟩
                rw [updH_ne (by rintro rfl; simp at hq; omega), updH_ne (by rintro rfl; simp at hq; omega), updH_ne r2, updH_ne r1, updH_ne (by rintro rfl; simp at hq; omega)]
              clear hS11
              have j12 := j11.mono (ck' := ck4 + 1 + 1 + 1 + 1 + 1 + 1 + 1 + 1 + 1 + 1 + 1 + 1 + 1 + 1 + 1) (by omega)
              have key := fun Kn h => eOwnR_call (Kn := Kn) hX3 j12.atl j12.row j12.lo2 j12.free j12.len (evb_lens hev11) h
              rw [hl11] at key
              refine key _ fun ck5 hck5 => ?_
              have hrp := hfi2.replay
              have r1 := fun d => j12.free (ck5 + 1, d) (by show ck4 + 1 + 1 + 1 + 1 + 1 + 1 + 1 + 1 + 1 + 1 + 1 + 1 + 1 + 1 + 1 < ck5 + 1; omega)
              have r2 := fun d => j12.free (ck5 + 1 + 1, d) (by show ck4 + 1 + 1 + 1 + 1 + 1 + 1 + 1 + 1 + 1 + 1 + 1 + 1 + 1 + 1 + 1 < ck5 + 1 + 1; omega)
              have r0 := fun d => j11.free (ck5, d) (by show ck4 + 1 + 1 + 1 + 1 + 1 + 1 + 1 + 1 + 1 < ck5; omega)
              simp (maxSteps := 400000) only [go_sem, ↓upXAbsY, ↓upXAbsZa, ↓upXOffC, ↓callT_hide, ↓extT_hide, hrp, r0, r1, r2, encReg, fReg_fund]
              exact ⟨⟨L11, rfl, by omega, hev11⟩, inK_of (by omega) (by omega), by omega, ⟨S11, L11, G11, of ++ [⟨oN k, hN i3, 1 + ak, true⟩], fd - (1 + ak), td ++ [x], k + 1⟩, ⟨j12.mono (by omega), t11, by show ck3 + 1 + 1 ≤ _; omega, hfi2, hti2, hlt, hom2⟩, by show n - (k + 1) < n - k; omega, ⟨by show V.msl _ 0 (td.length + 1) = V.msl _ 0 (td ++ [x]).length; rw [len_snoc], rfl⟩, HpLe.drop2 (r0 _)⟩
        | false =>
          rw [hok'] at hrow
          rw [← hq0]
          clear hq0
          simp (maxSteps := 400000) only [go_sem, ↓upXAbsY, ↓upXAbsZa, ↓upXOffC, ↓callT_hide, ↓extT_hide, hd, hpu, hrow, hm3, w864, w1664, if_true, h1, h2, htd, g1, g2, g3, g4]
          have j7 : JAtR (updH S (c + 1 + 1, 7) (.cells [.bool false, .int .u8 hk, .int .u16 ak])) (4, 3) (6, 1000) L gt (c + 1 + 1 + 1 + 1 + 1) := hat.upd (by show c < c + 1 + 1; omega) (by show c + 1 + 1 ≤ _; omega)
          have htd7 : updH S (c + 1 + 1, 7) (.cells [.bool false, .int .u8 hk, .int .u16 ak]) (ck3 + 1 + 1, 1000) = some (.arr td.length 3 fun i => encBE (el td i)) := by rw [updH_ne (by simp)]; exact htd
          have h7 : updH S (c + 1 + 1, 7) (.cells [.bool false, .int .u8 hk, .int .u16 ak]) (c + 1 + 1, 7) = some (.cells [.bool false, .int .u8 hk, .int .u16 ak]) := updH_same _ _ _
          refine ⟨⟨by omega, by omega⟩, inK_of (by omega) (by omega), ⟨_, rfl, by omega, by omega⟩, by rw [dig_len]; decide, inK_of (by omega) (by omega), inK_of (by omega) (by omega), .inl fun hX2 => callH_clean (hp2 := updH S (c + 1 + 1, 7) (.cells [.bool false, .int .u8 hk, .int .u16 ak])) (HpLe.again (ObjLe.refl _)) (tmLe_refl _) (eOwnR_call hX2 j7.atl j7.row j7.lo2 j7.free j7.len (evb_lens hfi.evb) fun ck4 hck4 => ?_)⟩
          generalize updH S (c + 1 + 1, 7) _ = S7 at j7 htd7 h7 ⊢
          clear h1 h2 g1 g2 g3 g4 hX2
          have j7 := j7.mono hck4
          have h1 := j7.atb
          have h2 := j7.atl
          have g1 := fun d => j7.free (ck4 + 1, d) (Nat.lt_succ_self _)
          have g2 := fun d => j7.free (ck4 + 1 + 1, d) (by show ck4 < ck4 + 1 + 1; omega)
          have g3 := fun d => j7.free (ck4 + 1 + 1 + 1, d) (by show ck4 < ck4 + 1 + 1 + 1; omega)
          have g4 := fun d => j7.free (ck4 + 1 + 1 + 1 + 1, d) (by show ck4 < ck4 + 1 + 1 + 1 + 1; omega)
          have g5 := fun d => j7.free (ck4 + 1 + 1 + 1 + 1 + 1, d) (by show ck4 < ck4 + 1 + 1 + 1 + 1 + 1; omega)
          have k4 : ¬ ck3 = 4 := by omega
          simp (maxSteps := 400000) only [go_sem, ↓upXAbsY, ↓upXAbsZa, ↓upXOffC, ↓callT_hide, ↓extT_hide, h1, h2, h7, htd7, g1, g2, g3, g4, g5, k4, Nat.zero_add]
          have hA : 1 ≤ 1 + ak ∧ 1 + ak ≤ 65536 := by omega
          have hk8 : k < 8 := by omega
          have htl := told_len hti
          have hLl := hfi.len
          obtain ⟨x, hx⟩ : ∃ x : BE, x = ⟨true, [], 1 + ak⟩ := ⟨_, rfl⟩
          obtain ⟨hz, hfi2⟩ := hfi.in_ok hk8 hA
          obtain ⟨hbl, hti2⟩ := hti.in_ok hk8 hA
          rw [← hx] at hbl hti2
          have hom2 : ∀ y ∈ td ++ [x], y.home.length ≤ 1000000 := fun y hy => by
            rcases List.mem_append.1 hy with hy | hy
            · exact hom y hy
            · rw [List.mem_singleton.1 hy, hx]; show 0 ≤ 1000000; decide
          obtain ⟨S8, hS8⟩ : ∃ S8, S8 = updH S7 (ck3 + 1 + 1, 1000) (.arr (td.length + 1) 3 fun i => encBE (el (td ++ [x]) i)) := ⟨_, rfl⟩
          have T3 : ¬ ((6, 1000) : Loc) = (ck3 + 1 + 1, 1000) := fun e => T2 e.symm
          have T4 : ¬ ((4, 3) : Loc) = (ck3 + 1 + 1, 1000) := fun e => T1 e.symm
          have j8 : JAtR S8 (4, 3) (6, 1000) L gt ck4 := ⟨by rw [hS8, updH_ne T4]; exact j7.atb, by rw [hS8, updH_ne T3]; exact j7.atl, j7.row, by show 4 ≤ _; omega, by show 6 ≤ _; omega, by decide, fun q hq => by
            rw [hS8, updH_ne (by rintro rfl; simp at hq; omega)]
            exact j7.free q hq, j7.len⟩
          have t8 : S8 (ck3 + 1 + 1, 1000) = some (.arr (td.length + 1) 3 fun i => encBE (el (td ++ [x]) i)) := by rw [hS8, updH_same]
          refine ⟨⟨by omega, by omega, row_ok0 rfl (ones_be ⟨true, [], 1 + ak⟩)⟩, .inl fun hX3 => callH_clean (hp2 := S8) ?_ (tmLe_refl _) (callT_vent4 (VEnt.nils _ _) (vent_rowI [1, 1 + ak]) (eAddR_call (names := []) hX3 (j8.mono (by omega)) (by omega) fun S9 ck5 hck5 j9 hs9 => ?_))⟩
          · rw [hS8]
            refine hpLe_one (ck := ck4) j7.free (fun q hq r1 => ?_) ⟨.arr (td.length + 1) 3 (fun i => if i < td.length then encBE (el td i) else rowAt [.bool true, .str [], .int .i64 (1 + ak)] 3 (i - td.length)), by rw [updH_ne (by simp), updH_ne (by simp), updH_same], rfl, rfl, fun i hi => ?_⟩
            · rw [updH_ne (by rintro rfl; simp at hq; omega), updH_ne (by rintro rfl; simp at hq; omega), updH_ne r1, updH_ne (by rintro rfl; simp at hq; omega)]
            · show encBE (el (td ++ [x]) i) = _
              rw [← snocT_row i hi, hx]; rfl
          have t9 : S9 (ck3 + 1 + 1, 1000) = some (.arr (td.length + 1) 3 fun i => encBE (el (td ++ [x]) i)) := by rw [hs9 _ T1 T2]; exact t8
          clear hS8 hs9
          obtain ⟨L9, hL9⟩ : ∃ L9, L9 = L ++ [fundEv L.length (1 + ak)] := ⟨_, rfl⟩
          have hl9 : L9.length = L.length + 1 := by rw [hL9, len_snoc]
          rw [← hL9] at hfi2
          have j9 : JAtR S9 (4, 3) (6, 1000) L9 (snocG L.length gt (encEv (fundEv L.length (1 + ak)))) ck5 := by rw [hL9]; exact j9
          have b9 := j9.atb
          rw [hl9] at b9
          have c9 := j9.atl
          rw [hl9] at c9
          have hlast : snocG L.length gt (encEv (fundEv L.length (1 + ak))) L.length = [.int .i64 ((L.length : Int) + 1), .str [102, 117, 110, 100], encStrs [], encInts [1, 1 + ak], .str []] := snocG_last
          have hz : acceptsE levelE L ⟨(L.length : Int) + 1, [102, 117, 110, 100], [], [1, 1 + ak], []⟩ = 0 := hz
          have n0 := fun d => j9.free (ck5 + 1, d) (Nat.lt_succ_self _)
          have n1 := fun d => j9.free (ck5 + 1 + 1, d) (by show ck5 < ck5 + 1 + 1; omega)
          have n2 := fun d => j9.free (ck5 + 1 + 1 + 1, d) (by show ck5 < ck5 + 1 + 1 + 1; omega)
          have n3 := fun d => j9.free (ck5 + 1 + 1 + 1 + 1, d) (by show ck5 < ck5 + 1 + 1 + 1 + 1; omega)
          have n4 := fun d => j9.free (ck5 + 1 + 1 + 1 + 1 + 1, d) (by show ck5 < ck5 + 1 + 1 + 1 + 1 + 1; omega)
          have n5 := fun d => j9.free (ck5 + 1 + 1 + 1 + 1 + 1 + 1, d) (by show ck5 < ck5 + 1 + 1 + 1 + 1 + 1 + 1; omega)
          have e1 : ((L.length : Int) + 1 - 1).toNat = L.length := by omega
          have e2 : ((L.length + 1 : Nat) : Int) = (L.length : Int) + 1 := by omega
          have hfz : ∀ n hp (y : BE), frzRow (frz (n + 1) hp) (encBE y) = encBE y := fun n hp y => frzRow_pu (ones_be y).pu
          have hdG : decRows decBE (.sl (td.length + 1) 3 fun i => encBE (el (td ++ [x]) i)) = td ++ [x] := dec_rowsG (by rw [len_snoc]) fun i hi => rfl
          have hbal : ∃ n get l, [V.sl (td.length + 1) 3 fun i => encBE (el (td ++ [x]) i)] = [V.sl n 3 get] ∧ n = l.length ∧ (∀ i, i < n → get i = encBE (el l i)) ∧ l.length ≤ 1000000 ∧ ∀ x ∈ l, x.home.length ≤ 1000000 :=
            ⟨_, _, td ++ [x], rfl, by rw [len_snoc], fun i hi => rfl, by rw [len_snoc]; omega, hom2⟩
          have hev9 := hfi2.evb
          have hfev : EvB (fundEv L.length (1 + ak)) := evb_of (fEv_ok (by omega) hA)
          have hacc : ∃ l e cs, [encRows 5 encEv L, V.agg [.int .i64 ((L.length : Int) + 1), .str [102, 117, 110, 100], encStrs [], encInts [1, 1 + ak], .str []]] = [encRows 5 encEv l, V.agg cs] ∧ RowOk e cs ∧ l.length ≤ 1000000 ∧ (∀ e ∈ l, EvB e) ∧ EvB e :=
            ⟨L, fundEv L.length (1 + ak), _, rfl, rowOk_enc _, by omega, hfi.evb, hfev⟩
          simp (maxSteps := 400000) only [go_sem, ↓upXAbsY, ↓upXAbsZa, ↓upXOffC, ↓callT_hide, ↓extT_hide, b9, c9, t9, hlast, n0, n1, n2, n3, n4, n5, e1, e2, k4, hz, hfz, hdG, hbl, Nat.zero_add, Nat.not_lt_zero, if_false, Nat.sub_zero]
          refine ⟨inK_of (by omega) (by omega), ⟨by omega, by omega⟩, hacc, ⟨by omega, by omega, fun i _ v hv => ⟨.inl (ones_be _ v hv).1, (ones_be _ v hv).2⟩⟩, ⟨hbal, noSlT2⟩, .inl fun hX4 => callH_clean (hp2 := S9) (HpLe.drop2 (n1 _)) (tmLe_refl _) ?_⟩
          have j12 := j9.mono (ck' := ck5 + 1 + 1 + 1 + 1 + 1 + 1) (by omega)
          have key := fun Kn h => eOwnR_call (Kn := Kn) hX4 j12.atl j12.row j12.lo2 j12.free j12.len (evb_lens hev9) h
          rw [hl9] at key
          refine key _ fun ck6 hck6 => ?_
          have hrp := hfi2.replay
          have r0 := fun d => j9.free (ck6, d) (by show ck5 < ck6; omega)
          simp (maxSteps := 400000) only [go_sem, ↓upXAbsY, ↓upXAbsZa, ↓upXOffC, ↓callT_hide, ↓extT_hide, hrp, r0, encReg, fReg_fund]
          exact ⟨⟨L9, rfl, by omega, hev9⟩, inK_of (by omega) (by omega), by omega, ⟨S9, L9, _, of, fd + (1 + ak), td ++ [x], k + 1⟩, ⟨j12.mono (by omega), by show S9 _ = some (.arr (td ++ [x]).length 3 _); rw [len_snoc]; exact t9, by show ck3 + 1 + 1 ≤ _; omega, hfi2, hti2, hlt, hom2⟩, by show n - (k + 1) < n - k; omega, ⟨by show V.msl _ 0 (td.length + 1) = V.msl _ 0 (td ++ [x]).length; rw [len_snoc], rfl⟩, HpLe.drop2 (r0 _)⟩
      · have hd : decide ((k : Int) < (n : Int)) = false := decide_eq_false (by omega)
        rw [← hq0]
        clear hq0
        simp (maxSteps := 400000) only [go_sem, ↓upXAbsY, ↓upXAbsZa, ↓upXOffC, ↓callT_hide, ↓extT_hide, hd, hpu]
        refine ⟨_, fun x y q => q, ?_⟩
        simp (maxSteps := 400000) only [go_sem, ↓upXAbsY, ↓upXAbsZa, ↓upXOffC, ↓callT_hide, ↓extT_hide]
        exact VEnt.refl _
end Go.Fly.Tryz
end
