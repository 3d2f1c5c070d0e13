/- Part of a proof: an evaluator of the model's code by abstract values, and plain laws for it. No conditions. -/
import Derived.Test.YtfcdodaakhlppaaGreatDoorSYTPA
import Derived.Test.YtfcdodaakhlppaaGreatDoorAW
set_option linter.unusedSimpArgs false
set_option linter.unusedVariables false
section
/- Journals that a law writes: an event is added, a list is copied. -/
set_option maxRecDepth 100000
set_option maxHeartbeats 1000000
namespace Go.Fly.Tryz
open Go Off

theorem eAdd_call {Γ : FuncId → Option Contract} {r0 : Option Nat} {k0 : K} {H : Heap} {ck : Nat} {Kn : V → Heap → Nat → Prop} (hX : (⟨Proofs.Tryz.prog, Γ, G0, r0, k0⟩ : Cx).Ok) {box ln : Loc} {l : List Ev} {kind : Str} {names : List Str} {vals : List Int}
    (hJ : JAt H box ln l ck)
    (hKn : ∀ ck', ck ≤ ck' → Kn (.tup []) (putJ H box ln (l ++ [⟨(l.length : Int) + 1, kind, names, vals, []⟩])) ck') :
    CallT ⟨Proofs.Tryz.prog, Γ, G0, r0, k0⟩ H ck 8 [.ptr box 0, .str kind, encStrs names, encInts vals] Kn := by
  obtain ⟨hb, hl, hlo1, hlo2, hne, hf, hn⟩ := hJ
  have f1 := fun d => hf (ck + 1, d) (by show ck < ck + 1; omega)
  have f2 := fun d => hf (ck + 1 + 1, d) (by show ck < ck + 1 + 1; omega)
  have f3 := fun d => hf (ck + 1 + 1 + 1, d) (by show ck < ck + 1 + 1 + 1; omega)
  have e2 := fun d => freshF (l := ln) (ck := ck) (c := ck + 1 + 1) (d := d) hlo2 (by omega)
  have e3 := fun d => freshG (l := ln) (ck := ck) (c := ck + 1 + 1) (d := d) hlo2 (by omega)
  have e4 := fun d => freshF (l := box) (ck := ck) (c := ck + 1 + 1) (d := d) hlo1 (by omega)
  have e5 := fun d => freshG (l := box) (ck := ck) (c := ck + 1 + 1) (d := d) hlo1 (by omega)
  have hne2 : ¬ ln = box := fun q => hne q.symm
  refine CallT.less (CallT.inline hX Proofs.Tryz.func8 rfl foll (D := D8) (by kernel_rfl) (tab []) (tab_ok trivial) fun k1 => ?_)
  simp only [Proofs.Tryz.f8]
  rw [app_mkT (Nat.le_of_ble_eq_true rfl)]
  simp (maxSteps := 400000) only [go_sem, ↓upXAbsY, ↓upXAbsZa, ↓upXOffC, hb, hl, f1, f2, f3, e2, e3, e4, e5, hne, hne2, encStrs, encInts]
  refine ⟨by omega, inK_of (by omega) (by omega), ⟨by omega, by omega, row_ok rfl (ones_ev ⟨(l.length : Int) + 1, kind, names, vals, []⟩)⟩, _, putJ_le (ck := ck) (l := l ++ [⟨(l.length : Int) + 1, kind, names, vals, []⟩]) hne hf (fun q h1 h2 h3 => ?_) ?_ ⟨_, ?_, objLe_snoc rfl fun j hj => snocE (f := encEv) rfl rfl hj⟩, hKn _ (by omega)⟩
  · rw [updH_ne h2, updH_ne h3, updH_ne (by rintro rfl; simp at h1; omega)]
  · rw [updH_same, List.length_append]; rfl
  · rw [updH_ne hne2, updH_same]; rfl

end Go.Fly.Tryz
end
section
/- The office: what is asked about a name; the number of a house; numbers as words. -/
set_option maxRecDepth 100000
set_option maxHeartbeats 1000000
namespace Go.Fly.Tryz
open Go Off

theorem oAsked_ok : Holds Proofs.Tryz.prog G0 55 askC := by
  refine Holds.of_exC D55 Proofs.Tryz.func55 rfl foll (by kernel_rfl) (tab [(46, replC), (49, whenC), (102, containsC), (104, namesC)]) (tab_ok ⟨oReplayed_ok, oWhen_ok, sContains_ok, oNames_ok, trivial⟩) G0_ok fun k0 rl args hpu hpre => ?_
  unfold askC at hpre ⊢
  obtain ⟨l, c, s, rfl, hl, hE⟩ := hpre
  simp only [arg_0, arg_1, arg_2, intOf_int, strOf_str, dec_evs]
  have hg := (replayed_good l).rl
  by_cases w : (replayed levelE l).2.2 = 0
  · have dw : decide ((replayed levelE l).2.2 = 0) = true := decide_eq_true w
    simp only [Proofs.Tryz.f55]
    rw [enter_mkT (Nat.le_of_ble_eq_true rfl)]
    simp (maxSteps := 4000000) only [go_sem, ↓upXAbsY, ↓upXAbsZa, ↓upXOffC, dw, Bool.not_true, encHist, encStrs]
    refine ⟨⟨l, rfl, hl, hE⟩, ⟨_, c, rfl, hg⟩, ⟨_, _, _, rfl, strsV (hg.names c)⟩, VEnt.of_eq ?_⟩
    unfold askE
    rw [if_neg (fun q => q w)]
  · have dw : decide ((replayed levelE l).2.2 = 0) = false := decide_eq_false w
    simp only [Proofs.Tryz.f55]
    rw [enter_mkT (Nat.le_of_ble_eq_true rfl)]
    simp (maxSteps := 4000000) only [go_sem, ↓upXAbsY, ↓upXAbsZa, ↓upXOffC, dw, Bool.not_false, encHist]
    refine ⟨⟨l, rfl, hl, hE⟩, VEnt.of_eq ?_⟩
    unfold askE
    rw [if_pos w]

theorem oNumQ_ok : Holds Proofs.Tryz.prog G0 17 numberQC := by
  refine Holds.of_exC D17 Proofs.Tryz.func17 rfl foll (by kernel_rfl) (tab [(55, askC), (56, chainC), (57, findC 104 encHo Reg.house), (58, numberC)]) (tab_ok ⟨oAsked_ok, oChain_ok, oHouse_ok, oNumber_ok, trivial⟩) G0_ok fun k0 rl args hpu hpre => ?_
  unfold numberQC at hpre ⊢
  obtain ⟨l, s, rfl, hl, hE⟩ := hpre
  simp only [arg_0, arg_1, strOf_str, dec_evs]
  have hg := replayed_good l
  by_cases w : askE l 104 s = 0
  · have dw : decide (askE l 104 s = 0) = true := decide_eq_true w
    obtain ⟨w1, w2⟩ := ask_zero w
    have hco := hg.ok.chain _ (house_mem w2)
    simp only [Proofs.Tryz.f17]
    rw [enter_mkT (Nat.le_of_ble_eq_true rfl)]
    simp (maxSteps := 4000000) only [go_sem, ↓upXAbsY, ↓upXAbsZa, ↓upXOffC, dw, Bool.not_true, encHist, encHo]
    refine ⟨⟨l, _, s, rfl, hl, hE⟩, ⟨_, s, rfl, hg.rl, w2⟩, ⟨_, _, rfl, hco⟩, ⟨_, rfl, its_ok hco⟩, VEnt.of_eq ?_⟩
    unfold numE
    rw [if_neg (fun q => q w)]
  · have dw : decide (askE l 104 s = 0) = false := decide_eq_false w
    simp only [Proofs.Tryz.f17]
    rw [enter_mkT (Nat.le_of_ble_eq_true rfl)]
    simp (maxSteps := 4000000) only [go_sem, ↓upXAbsY, ↓upXAbsZa, ↓upXOffC, dw, Bool.not_false, encHist]
    refine ⟨⟨l, _, s, rfl, hl, hE⟩, VEnt.of_eq ?_⟩
    unfold numE
    rw [if_pos w]

theorem eWords_ok : Holds Proofs.Tryz.prog G0 9 wordsC := by
  refine Holds.of_exC D9 Proofs.Tryz.func9 rfl foll (by kernel_rfl) (tab []) (tab_ok trivial) G0_ok fun k0 rl args hpu hpre => ?_
  unfold wordsC at hpre ⊢
  obtain ⟨n, get, rfl, hs⟩ := hpre
  simp only [arg_0]
  simp only [Proofs.Tryz.f9]
  rw [enter_mkT (Nat.le_of_ble_eq_true rfl)]
  simp (maxSteps := 4000000) only [go_sem, ↓upXAbsY, ↓upXAbsZa, ↓upXOffC]
  exact vent_dec hs

theorem qText_ok : Holds Proofs.Tryz.prog G0 10 text1C := by
  refine Holds.of_exC D10 Proofs.Tryz.func10 rfl foll (by kernel_rfl) (tab [(iceKey 20, iceC)]) (tab_ok ⟨ice_holds, trivial⟩) G0_ok fun k0 rl args hpu hpre => ?_
  unfold text1C at hpre ⊢
  obtain ⟨n, rfl, h0, h9⟩ := hpre
  simp only [arg_0, intOf_int]
  have hn : n = 0 ∨ n = 1 ∨ n = 2 ∨ n = 3 ∨ n = 4 ∨ n = 5 ∨ n = 6 ∨ n = 7 ∨ n = 8 ∨ n = 9 := by omega
  rcases hn with rfl | rfl | rfl | rfl | rfl | rfl | rfl | rfl | rfl | rfl
  · simp only [Proofs.Tryz.f10]
    rw [enter_mkT (Nat.le_of_ble_eq_true rfl)]
    simp (maxSteps := 4000000) only [go_sem, ↓upXAbsY, ↓upXAbsZa, ↓upXOffC]
    exact VEnt.of_eq rfl
  · simp only [Proofs.Tryz.f10]
    rw [enter_mkT (Nat.le_of_ble_eq_true rfl)]
    simp (maxSteps := 4000000) only [go_sem, ↓upXAbsY, ↓upXAbsZa, ↓upXOffC]
    refine RestT.loopF (β := Nat) [(3, 4), (8, 23)] (fun i => [(3, .str (if i = 0 then [] else dig 1)), (4, .int .i64 (if i = 0 then 1 else 0))]) (fun _ => fun _ => none) (fun i => i ≤ 1) (fun i => 1 - i) 0 (Nat.zero_le _) ?_ HpLe.none ?_
    · simp (maxSteps := 4000000) only [go_sem, ↓upXAbsY, ↓upXAbsZa, ↓upXOffC]
      try exact ⟨rfl, rfl⟩
    · intro ck i hck hi
      generalize hq0 : exC _ _ _ _ _ = gg
      have hi : i = 0 ∨ i = 1 := by have : i ≤ 1 := hi; omega
      rcases hi with rfl | rfl
      · rw [← hq0]
        clear hq0
        have t1 : Int.tmod 1 10 = 1 := by decide
        have t2 : max (1 : Int) (0 - 1) = 1 := by decide
        have t3 : IntKind.u8.wrap (48 + 1) = 49 := by decide
        have t4 : Int.tdiv 1 10 = 0 := by decide
        simp (maxSteps := 4000000) only [go_sem, ↓upXAbsY, ↓upXAbsZa, ↓upXOffC, if_true, t1, t2, t3, t4, w8]
        exact ⟨inK_of (by decide) (by decide), inK_of (by decide) (by decide), ⟨by decide, fun i hi => by obtain rfl : i = 0 := (by omega); rfl⟩, by simp [bytesV], inK_of (by decide) (by decide), by omega, 1, by decide, by decide, ⟨rfl, rfl⟩, HpLe.none⟩
      · rw [← hq0]
        clear hq0
        simp (maxSteps := 4000000) only [go_sem, ↓upXAbsY, ↓upXAbsZa, ↓upXOffC, if_false]
        exact VEnt.refl _
  · simp only [Proofs.Tryz.f10]
    rw [enter_mkT (Nat.le_of_ble_eq_true rfl)]
    simp (maxSteps := 4000000) only [go_sem, ↓upXAbsY, ↓upXAbsZa, ↓upXOffC]
    refine RestT.loopF (β := Nat) [(3, 4), (8, 23)] (fun i => [(3, .str (if i = 0 then [] else dig 2)), (4, .int .i64 (if i = 0 then 2 else 0))]) (fun _ => fun _ => none) (fun i => i ≤ 1) (fun i => 1 - i) 0 (Nat.zero_le _) ?_ HpLe.none ?_
    · simp (maxSteps := 4000000) only [go_sem, ↓upXAbsY, ↓upXAbsZa, ↓upXOffC]
      try exact ⟨rfl, rfl⟩
    · intro ck i hck hi
      generalize hq0 : exC _ _ _ _ _ = gg
      have hi : i = 0 ∨ i = 1 := by have : i ≤ 1 := hi; omega
      rcases hi with rfl | rfl
      · rw [← hq0]
        clear hq0
        have t1 : Int.tmod 2 10 = 2 := by decide
        have t2 : max (2 : Int) (0 - 2) = 2 := by decide
        have t3 : IntKind.u8.wrap (48 + 2) = 50 := by decide
        have t4 : Int.tdiv 2 10 = 0 := by decide
        simp (maxSteps := 4000000) only [go_sem, ↓upXAbsY, ↓upXAbsZa, ↓upXOffC, if_true, t1, t2, t3, t4, w8]
        exact ⟨inK_of (by decide) (by decide), inK_of (by decide) (by decide), ⟨by decide, fun i hi => by obtain rfl : i = 0 := (by omega); rfl⟩, by simp [bytesV], inK_of (by decide) (by decide), by omega, 1, by decide, by decide, ⟨rfl, rfl⟩, HpLe.none⟩
      · rw [← hq0]
        clear hq0
        simp (maxSteps := 4000000) only [go_sem, ↓upXAbsY, ↓upXAbsZa, ↓upXOffC, if_false]
        exact VEnt.refl _
  · simp only [Proofs.Tryz.f10]
    rw [enter_mkT (Nat.le_of_ble_eq_true rfl)]
    simp (maxSteps := 4000000) only [go_sem, ↓upXAbsY, ↓upXAbsZa, ↓upXOffC]
    refine RestT.loopF (β := Nat) [(3, 4), (8, 23)] (fun i => [(3, .str (if i = 0 then [] else dig 3)), (4, .int .i64 (if i = 0 then 3 else 0))]) (fun _ => fun _ => none) (fun i => i ≤ 1) (fun i => 1 - i) 0 (Nat.zero_le _) ?_ HpLe.none ?_
    · simp (maxSteps := 4000000) only [go_sem, ↓upXAbsY, ↓upXAbsZa, ↓upXOffC]
      try exact ⟨rfl, rfl⟩
    · intro ck i hck hi
      generalize hq0 : exC _ _ _ _ _ = gg
      have hi : i = 0 ∨ i = 1 := by have : i ≤ 1 := hi; omega
      rcases hi with rfl | rfl
      · rw [← hq0]
        clear hq0
        have t1 : Int.tmod 3 10 = 3 := by decide
        have t2 : max (3 : Int) (0 - 3) = 3 := by decide
        have t3 : IntKind.u8.wrap (48 + 3) = 51 := by decide
        have t4 : Int.tdiv 3 10 = 0 := by decide
        simp (maxSteps := 4000000) only [go_sem, ↓upXAbsY, ↓upXAbsZa, ↓upXOffC, if_true, t1, t2, t3, t4, w8]
        exact ⟨inK_of (by decide) (by decide), inK_of (by decide) (by decide), ⟨by decide, fun i hi => by obtain rfl : i = 0 := (by omega); rfl⟩, by simp [bytesV], inK_of (by decide) (by decide), by omega, 1, by decide, by decide, ⟨rfl, rfl⟩, HpLe.none⟩
      · rw [← hq0]
        clear hq0
        simp (maxSteps := 4000000) only [go_sem, ↓upXAbsY, ↓upXAbsZa, ↓upXOffC, if_false]
        exact VEnt.refl _
  · simp only [Proofs.Tryz.f10]
    rw [enter_mkT (Nat.le_of_ble_eq_true rfl)]
    simp (maxSteps := 4000000) only [go_sem, ↓upXAbsY, ↓upXAbsZa, ↓upXOffC]
    refine RestT.loopF (β := Nat) [(3, 4), (8, 23)] (fun i => [(3, .str (if i = 0 then [] else dig 4)), (4, .int .i64 (if i = 0 then 4 else 0))]) (fun _ => fun _ => none) (fun i => i ≤ 1) (fun i => 1 - i) 0 (Nat.zero_le _) ?_ HpLe.none ?_
    · simp (maxSteps := 4000000) only [go_sem, ↓upXAbsY, ↓upXAbsZa, ↓upXOffC]
      try exact ⟨rfl, rfl⟩
    · intro ck i hck hi
      generalize hq0 : exC _ _ _ _ _ = gg
      have hi : i = 0 ∨ i = 1 := by have : i ≤ 1 := hi; omega
      rcases hi with rfl | rfl
      · rw [← hq0]
        clear hq0
        have t1 : Int.tmod 4 10 = 4 := by decide
        have t2 : max (4 : Int) (0 - 4) = 4 := by decide
        have t3 : IntKind.u8.wrap (48 + 4) = 52 := by decide
        have t4 : Int.tdiv 4 10 = 0 := by decide
        simp (maxSteps := 4000000) only [go_sem, ↓upXAbsY, ↓upXAbsZa, ↓upXOffC, if_true, t1, t2, t3, t4, w8]
        exact ⟨inK_of (by decide) (by decide), inK_of (by decide) (by decide), ⟨by decide, fun i hi => by obtain rfl : i = 0 := (by omega); rfl⟩, by simp [bytesV], inK_of (by decide) (by decide), by omega, 1, by decide, by decide, ⟨rfl, rfl⟩, HpLe.none⟩
      · rw [← hq0]
        clear hq0
        simp (maxSteps := 4000000) only [go_sem, ↓upXAbsY, ↓upXAbsZa, ↓upXOffC, if_false]
        exact VEnt.refl _
  · simp only [Proofs.Tryz.f10]
    rw [enter_mkT (Nat.le_of_ble_eq_true rfl)]
    simp (maxSteps := 4000000) only [go_sem, ↓upXAbsY, ↓upXAbsZa, ↓upXOffC]
    refine RestT.loopF (β := Nat) [(3, 4), (8, 23)] (fun i => [(3, .str (if i = 0 then [] else dig 5)), (4, .int .i64 (if i = 0 then 5 else 0))]) (fun _ => fun _ => none) (fun i => i ≤ 1) (fun i => 1 - i) 0 (Nat.zero_le _) ?_ HpLe.none ?_
    · simp (maxSteps := 4000000) only [go_sem, ↓upXAbsY, ↓upXAbsZa, ↓upXOffC]
      try exact ⟨rfl, rfl⟩
    · intro ck i hck hi
      generalize hq0 : exC _ _ _ _ _ = gg
      have hi : i = 0 ∨ i = 1 := by have : i ≤ 1 := hi; omega
      rcases hi with rfl | rfl
      · rw [← hq0]
        clear hq0
        have t1 : Int.tmod 5 10 = 5 := by decide
        have t2 : max (5 : Int) (0 - 5) = 5 := by decide
        have t3 : IntKind.u8.wrap (48 + 5) = 53 := by decide
        have t4 : Int.tdiv 5 10 = 0 := by decide
        simp (maxSteps := 4000000) only [go_sem, ↓upXAbsY, ↓upXAbsZa, ↓upXOffC, if_true, t1, t2, t3, t4, w8]
        exact ⟨inK_of (by decide) (by decide), inK_of (by decide) (by decide), ⟨by decide, fun i hi => by obtain rfl : i = 0 := (by omega); rfl⟩, by simp [bytesV], inK_of (by decide) (by decide), by omega, 1, by decide, by decide, ⟨rfl, rfl⟩, HpLe.none⟩
      · rw [← hq0]
        clear hq0
        simp (maxSteps := 4000000) only [go_sem, ↓upXAbsY, ↓upXAbsZa, ↓upXOffC, if_false]
        exact VEnt.refl _
  · simp only [Proofs.Tryz.f10]
    rw [enter_mkT (Nat.le_of_ble_eq_true rfl)]
    simp (maxSteps := 4000000) only [go_sem, ↓upXAbsY, ↓upXAbsZa, ↓upXOffC]
    refine RestT.loopF (β := Nat) [(3, 4), (8, 23)] (fun i => [(3, .str (if i = 0 then [] else dig 6)), (4, .int .i64 (if i = 0 then 6 else 0))]) (fun _ => fun _ => none) (fun i => i ≤ 1) (fun i => 1 - i) 0 (Nat.zero_le _) ?_ HpLe.none ?_
    · simp (maxSteps := 4000000) only [go_sem, ↓upXAbsY, ↓upXAbsZa, ↓upXOffC]
      try exact ⟨rfl, rfl⟩
    · intro ck i hck hi
      generalize hq0 : exC _ _ _ _ _ = gg
      have hi : i = 0 ∨ i = 1 := by have : i ≤ 1 := hi; omega
      rcases hi with rfl | rfl
      · rw [← hq0]
        clear hq0
        have t1 : Int.tmod 6 10 = 6 := by decide
        have t2 : max (6 : Int) (0 - 6) = 6 := by decide
        have t3 : IntKind.u8.wrap (48 + 6) = 54 := by decide
        have t4 : Int.tdiv 6 10 = 0 := by decide
        simp (maxSteps := 4000000) only [go_sem, ↓upXAbsY, ↓upXAbsZa, ↓upXOffC, if_true, t1, t2, t3, t4, w8]
        exact ⟨inK_of (by decide) (by decide), inK_of (by decide) (by decide), ⟨by decide, fun i hi => by obtain rfl : i = 0 := (by omega); rfl⟩, by simp [bytesV], inK_of (by decide) (by decide), by omega, 1, by decide, by decide, ⟨rfl, rfl⟩, HpLe.none⟩
      · rw [← hq0]
        clear hq0
        simp (maxSteps := 4000000) only [go_sem, ↓upXAbsY, ↓upXAbsZa, ↓upXOffC, if_false]
        exact VEnt.refl _
  · simp only [Proofs.Tryz.f10]
    rw [enter_mkT (Nat.le_of_ble_eq_true rfl)]
    simp (maxSteps := 4000000) only [go_sem, ↓upXAbsY, ↓upXAbsZa, ↓upXOffC]
    refine RestT.loopF (β := Nat) [(3, 4), (8, 23)] (fun i => [(3, .str (if i = 0 then [] else dig 7)), (4, .int .i64 (if i = 0 then 7 else 0))]) (fun _ => fun _ => none) (fun i => i ≤ 1) (fun i => 1 - i) 0 (Nat.zero_le _) ?_ HpLe.none ?_
    · simp (maxSteps := 4000000) only [go_sem, ↓upXAbsY, ↓upXAbsZa, ↓upXOffC]
      try exact ⟨rfl, rfl⟩
    · intro ck i hck hi
      generalize hq0 : exC _ _ _ _ _ = gg
      have hi : i = 0 ∨ i = 1 := by have : i ≤ 1 := hi; omega
      rcases hi with rfl | rfl
      · rw [← hq0]
        clear hq0
        have t1 : Int.tmod 7 10 = 7 := by decide
        have t2 : max (7 : Int) (0 - 7) = 7 := by decide
        have t3 : IntKind.u8.wrap (48 + 7) = 55 := by decide
        have t4 : Int.tdiv 7 10 = 0 := by decide
        simp (maxSteps := 4000000) only [go_sem, ↓upXAbsY, ↓upXAbsZa, ↓upXOffC, if_true, t1, t2, t3, t4, w8]
        exact ⟨inK_of (by decide) (by decide), inK_of (by decide) (by decide), ⟨by decide, fun i hi => by obtain rfl : i = 0 := (by omega); rfl⟩, by simp [bytesV], inK_of (by decide) (by decide), by omega, 1, by decide, by decide, ⟨rfl, rfl⟩, HpLe.none⟩
      · rw [← hq0]
        clear hq0
        simp (maxSteps := 4000000) only [go_sem, ↓upXAbsY, ↓upXAbsZa, ↓upXOffC, if_false]
        exact VEnt.refl _
  · simp only [Proofs.Tryz.f10]
    rw [enter_mkT (Nat.le_of_ble_eq_true rfl)]
    simp (maxSteps := 4000000) only [go_sem, ↓upXAbsY, ↓upXAbsZa, ↓upXOffC]
    refine RestT.loopF (β := Nat) [(3, 4), (8, 23)] (fun i => [(3, .str (if i = 0 then [] else dig 8)), (4, .int .i64 (if i = 0 then 8 else 0))]) (fun _ => fun _ => none) (fun i => i ≤ 1) (fun i => 1 - i) 0 (Nat.zero_le _) ?_ HpLe.none ?_
    · simp (maxSteps := 4000000) only [go_sem, ↓upXAbsY, ↓upXAbsZa, ↓upXOffC]
      try exact ⟨rfl, rfl⟩
    · intro ck i hck hi
      generalize hq0 : exC _ _ _ _ _ = gg
      have hi : i = 0 ∨ i = 1 := by have : i ≤ 1 := hi; omega
      rcases hi with rfl | rfl
      · rw [← hq0]
        clear hq0
        have t1 : Int.tmod 8 10 = 8 := by decide
        have t2 : max (8 : Int) (0 - 8) = 8 := by decide
        have t3 : IntKind.u8.wrap (48 + 8) = 56 := by decide
        have t4 : Int.tdiv 8 10 = 0 := by decide
        simp (maxSteps := 4000000) only [go_sem, ↓upXAbsY, ↓upXAbsZa, ↓upXOffC, if_true, t1, t2, t3, t4, w8]
        exact ⟨inK_of (by decide) (by decide), inK_of (by decide) (by decide), ⟨by decide, fun i hi => by obtain rfl : i = 0 := (by omega); rfl⟩, by simp [bytesV], inK_of (by decide) (by decide), by omega, 1, by decide, by decide, ⟨rfl, rfl⟩, HpLe.none⟩
      · rw [← hq0]
        clear hq0
        simp (maxSteps := 4000000) only [go_sem, ↓upXAbsY, ↓upXAbsZa, ↓upXOffC, if_false]
        exact VEnt.refl _
  · simp only [Proofs.Tryz.f10]
    rw [enter_mkT (Nat.le_of_ble_eq_true rfl)]
    simp (maxSteps := 4000000) only [go_sem, ↓upXAbsY, ↓upXAbsZa, ↓upXOffC]
    refine RestT.loopF (β := Nat) [(3, 4), (8, 23)] (fun i => [(3, .str (if i = 0 then [] else dig 9)), (4, .int .i64 (if i = 0 then 9 else 0))]) (fun _ => fun _ => none) (fun i => i ≤ 1) (fun i => 1 - i) 0 (Nat.zero_le _) ?_ HpLe.none ?_
    · simp (maxSteps := 4000000) only [go_sem, ↓upXAbsY, ↓upXAbsZa, ↓upXOffC]
      try exact ⟨rfl, rfl⟩
    · intro ck i hck hi
      generalize hq0 : exC _ _ _ _ _ = gg
      have hi : i = 0 ∨ i = 1 := by have : i ≤ 1 := hi; omega
      rcases hi with rfl | rfl
      · rw [← hq0]
        clear hq0
        have t1 : Int.tmod 9 10 = 9 := by decide
        have t2 : max (9 : Int) (0 - 9) = 9 := by decide
        have t3 : IntKind.u8.wrap (48 + 9) = 57 := by decide
        have t4 : Int.tdiv 9 10 = 0 := by decide
        simp (maxSteps := 4000000) only [go_sem, ↓upXAbsY, ↓upXAbsZa, ↓upXOffC, if_true, t1, t2, t3, t4, w8]
        exact ⟨inK_of (by decide) (by decide), inK_of (by decide) (by decide), ⟨by decide, fun i hi => by obtain rfl : i = 0 := (by omega); rfl⟩, by simp [bytesV], inK_of (by decide) (by decide), by omega, 1, by decide, by decide, ⟨rfl, rfl⟩, HpLe.none⟩
      · rw [← hq0]
        clear hq0
        simp (maxSteps := 4000000) only [go_sem, ↓upXAbsY, ↓upXAbsZa, ↓upXOffC, if_false]
        exact VEnt.refl _
end Go.Fly.Tryz
end
section
/- The balance of entries. -/
set_option maxRecDepth 100000
set_option maxHeartbeats 1000000
namespace Go.Fly.Tryz
open Go Off
structure BS where
  i : Nat
  es : Array MapEntry
  c : Nat
  b : Int
  p : List Str
structure BInv (l : List BE) (s : BS) : Prop where
  le : s.i ≤ l.length
  eq : balL l 0 [] = balL (l.drop s.i) s.b s.p
  bd : 0 ≤ s.b ∧ s.b ≤ 100000000 * s.i
  ent : ∀ e ∈ s.es.toList, (∃ s' : List UInt8, e.key = .string ⟨s'.toArray⟩) ∧ e.val = .bool true
  mem : ∀ x, x ∈ s.p ↔ ∃ e ∈ s.es.toList, e.key = .string ⟨x.toArray⟩

theorem hBal_ok : Holds Proofs.Tryz.prog G0 13 balC := by
  refine Holds.of_exC D13 Proofs.Tryz.func13 rfl foll (by kernel_rfl) (tab [(51, firstC), (52, withinC), (53, whenC), (54, nameC)]) (tab_ok ⟨hFirst_ok, hWithin_ok, hWhen_ok, dName_ok, trivial⟩) G0_ok fun k0 rl args hpu hpre => ?_
  unfold balC at hpre ⊢
  obtain ⟨l, rfl, hl, hhl⟩ := hpre
  simp only [arg_0, dec_bes]
  by_cases c1 : 64 < l.length
  · have d1 : decide ((64 : Int) < (l.length : Int)) = true := decide_eq_true (by omega)
    simp only [Proofs.Tryz.f13]
    rw [enter_mkT (Nat.le_of_ble_eq_true rfl)]
    simp (maxSteps := 4000000) only [go_sem, ↓upXAbsY, ↓upXAbsZa, ↓upXOffC, encRows, encBE, d1]
    exact VEnt.of_eq (by unfold balE; rw [if_pos c1])
  · have d1 : decide ((64 : Int) < (l.length : Int)) = false := decide_eq_false (by omega)
    simp only [Proofs.Tryz.f13]
    rw [enter_mkT (Nat.le_of_ble_eq_true rfl)]
    simp (maxSteps := 4000000) only [go_sem, ↓upXAbsY, ↓upXAbsZa, ↓upXOffC, encRows, encBE, d1]
    refine ⟨fun L o h => (by cases h), fun L => ?_⟩
    refine RestT.loopF (β := BS) [(2, 4), (7, 8), (15, 80)] (fun s => [(4, .int .i64 s.b), (15, .int .i64 s.i)]) (fun s => updH (fun _ => none) (0, L) (.raw (.map s.es s.c))) (BInv l) (fun s => l.length - s.i) ⟨0, #[], 0, 0, []⟩ ⟨Nat.zero_le _, rfl, ⟨by decide, by decide⟩, fun e he => (by simp at he), fun x => (by simp)⟩ ?_ (HpLe.refl _) ?_
    · simp (maxSteps := 4000000) only [go_sem, ↓upXAbsY, ↓upXAbsZa, ↓upXOffC]
      try exact rfl
    · intro ck s hck hI
      obtain ⟨i, es, c, b, p⟩ := s
      obtain ⟨hi, heq, hbd, hent, hmem⟩ := hI
      have hi : i ≤ l.length := hi
      have heq : balL l 0 [] = balL (l.drop i) b p := heq
      have hbd : 0 ≤ b ∧ b ≤ 100000000 * i := hbd
      have hent : ∀ e ∈ es.toList, (∃ s' : List UInt8, e.key = .string ⟨s'.toArray⟩) ∧ e.val = .bool true := hent
      have hmem : ∀ x, x ∈ p ↔ ∃ e ∈ es.toList, e.key = .string ⟨x.toArray⟩ := hmem
      generalize hq0 : exC _ _ _ _ _ = gg
      by_cases hlt : i < l.length
      · have hd : decide ((i : Int) < (l.length : Int)) = true := by simp; omega
        have hdr : l.drop i = el l i :: l.drop (i + 1) := by rw [el_get _ hlt]; exact List.drop_eq_getElem_cons hlt
        generalize hx : el l i = x at hdr
        obtain ⟨xin, xh, xa⟩ := x
        rw [hdr] at heq
        have hxl : xh.length ≤ 1000000 := by have := hhl _ (el_mem hlt); rw [hx] at this; exact this
        cases xin with
        | true =>
          by_cases w : beE b p ⟨true, xh, xa⟩ = 0
          · have dw : decide (beE b p ⟨true, xh, xa⟩ = 0) = true := decide_eq_true w
            obtain ⟨z1, -⟩ := beE_zero w
            have z1 : 1 ≤ xa ∧ xa ≤ 100000000 := z1
            rw [balL_in w rfl] at heq
            rw [← hq0]
            clear hq0
            simp (maxSteps := 4000000) only [go_sem, ↓upXAbsY, ↓upXAbsZa, ↓upXOffC, hd, hx, beE_in (b := b) (p := p), dw, Bool.not_true]
            exact ⟨⟨by omega, by omega⟩, inK_of (by omega) (by omega), inK_of (by omega) (by omega), ⟨i + 1, es, c, b + xa, p⟩, ⟨hlt, heq, ⟨by show 0 ≤ b + xa; omega, by show b + xa ≤ 100000000 * ((i + 1 : Nat) : Int); omega⟩, hent, hmem⟩, by show l.length - (i + 1) < l.length - i; omega, ⟨rfl, rfl⟩, HpLe.upd HpLe.none ⟨_, by simp [updH], ObjLe.refl _⟩⟩
          · have dw : decide (beE b p ⟨true, xh, xa⟩ = 0) = false := decide_eq_false w
            rw [balL_err w] at heq
            rw [← hq0]
            clear hq0
            simp (maxSteps := 4000000) only [go_sem, ↓upXAbsY, ↓upXAbsZa, ↓upXOffC, hd, hx, beE_in (b := b) (p := p), dw, Bool.not_false]
            exact ⟨⟨by omega, by omega⟩, VEnt.of_eq (by unfold balE; rw [if_neg c1, heq])⟩
        | false =>
          by_cases hp : xh ∈ p
          · obtain ⟨j, hf⟩ := findNow_yes (s := xh) (l := es.toList) hent ((hmem xh).1 hp) 0
            have w : beE b p ⟨false, xh, xa⟩ ≠ 0 := fun w => ((beE_zero w).2 rfl).1 hp
            have dw : decide (beE b p ⟨false, xh, xa⟩ = 0) = false := decide_eq_false w
            have hbo := beE_out (b := b) (p := p) (xh := xh) (xa := xa)
            rw [show decide (xh ∈ p) = true from decide_eq_true hp] at hbo
            rw [balL_err w] at heq
            rw [← hq0]
            clear hq0
            simp (maxSteps := 4000000) only [go_sem, ↓upXAbsY, ↓upXAbsZa, ↓upXOffC, hd, hx, hf, hbo, dw, Bool.not_false]
            exact ⟨⟨by omega, by omega⟩, by omega, VEnt.of_eq (by unfold balE; rw [if_neg c1, heq])⟩
          · have hf := findNow_none (s := xh) (l := es.toList) (fun e he => by
              obtain ⟨⟨s', hk⟩, _⟩ := hent e he
              exact ⟨s', hk, fun q => hp ((hmem xh).2 ⟨e, he, by rw [hk, q]⟩)⟩) 0
            have hbo := beE_out (b := b) (p := p) (xh := xh) (xa := xa)
            rw [show decide (xh ∈ p) = false from decide_eq_false hp] at hbo
            by_cases w : beE b p ⟨false, xh, xa⟩ = 0
            · have dw : decide (beE b p ⟨false, xh, xa⟩ = 0) = true := decide_eq_true w
              obtain ⟨z1, z2⟩ := beE_zero w
              have z1 : 1 ≤ xa ∧ xa ≤ 100000000 := z1
              have z3 : xa ≤ b := (z2 rfl).2
              rw [balL_out w rfl] at heq
              rw [← hq0]
              clear hq0
              simp (maxSteps := 4000000) only [go_sem, ↓upXAbsY, ↓upXAbsZa, ↓upXOffC, hd, hx, hf, hbo, dw, Bool.not_true]
              refine ⟨⟨by omega, by omega⟩, by omega, inK_of (by omega) (by omega), inK_of (by omega) (by omega), ⟨i + 1, es.push ⟨.string ⟨xh.toArray⟩, .bool true, c⟩, c + 1, b - xa, xh :: p⟩, ⟨hlt, heq, ⟨by show 0 ≤ b - xa; omega, by show b - xa ≤ 100000000 * ((i + 1 : Nat) : Int); omega⟩, fun e he => ?_, fun y => ?_⟩, by show l.length - (i + 1) < l.length - i; omega, ⟨rfl, rfl⟩, HpLe.upd HpLe.none ⟨_, by simp [updH], ObjLe.refl _⟩⟩
              · simp only [Array.toList_push, List.mem_append, List.mem_singleton] at he
                rcases he with he | rfl
                · exact hent e he
                · exact ⟨⟨xh, rfl⟩, rfl⟩
              · show y ∈ xh :: p ↔ _
                simp only [Array.toList_push, List.mem_append, List.mem_singleton, List.mem_cons, hmem y]
                refine ⟨fun q => ?_, fun ⟨e, he, hk⟩ => ?_⟩
                · rcases q with rfl | ⟨e, he, hk⟩
                  · exact ⟨_, .inr (.inl rfl), rfl⟩
                  · exact ⟨e, .inl he, hk⟩
                · rcases he with he | rfl | he
                  · exact .inr ⟨e, he, hk⟩
                  rotate_left
                  · cases he
                  · have : xh = y := by simpa using hk
                    exact .inl this.symm
            · have dw : decide (beE b p ⟨false, xh, xa⟩ = 0) = false := decide_eq_false w
              rw [balL_err w] at heq
              rw [← hq0]
              clear hq0
              simp (maxSteps := 4000000) only [go_sem, ↓upXAbsY, ↓upXAbsZa, ↓upXOffC, hd, hx, hf, hbo, dw, Bool.not_false]
              exact ⟨⟨by omega, by omega⟩, by omega, VEnt.of_eq (by unfold balE; rw [if_neg c1, heq])⟩
      · have hd : decide ((i : Int) < (l.length : Int)) = false := by simp; omega
        obtain rfl : i = l.length := by omega
        rw [← hq0]
        clear hq0
        simp (maxSteps := 4000000) only [go_sem, ↓upXAbsY, ↓upXAbsZa, ↓upXOffC, hd]
        rw [List.drop_length] at heq
        exact VEnt.of_eq (by unfold balE; rw [if_neg c1, heq]; rfl)
end Go.Fly.Tryz
end
