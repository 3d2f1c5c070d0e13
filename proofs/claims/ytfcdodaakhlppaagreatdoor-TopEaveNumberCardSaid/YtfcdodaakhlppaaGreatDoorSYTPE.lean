/- Part of a proof: an evaluator of the model's code by abstract values, and plain laws for it. No conditions. -/
import Derived.Test.YtfcdodaakhlppaaGreatDoorSYTPA
import Derived.Test.YtfcdodaakhlppaaGreatDoorAW
set_option linter.unusedSimpArgs false
set_option linter.unusedVariables false
section
/- Journals that a law writes: an event is added, a list is copied. -/
set_option maxRecDepth 100000
set_option maxHeartbeats 1000000
namespace Go.Fly.Tryz
open Go Off

theorem eAdd_call {Γ : FuncId → Option Contract} {r0 : Option Nat} {k0 : K} {H : Heap} {ck : Nat} {Kn : V → Heap → Nat → Prop} (hX : (⟨Proofs.Tryz.prog, Γ, G0, r0, k0⟩ : Cx).Ok) {box ln : Loc} {l : List Ev} {kind : Str} {names : List Str} {vals : List Int}
    (hJ : JAt H box ln l ck)
    (hKn : ∀ ck', ck ≤ ck' → Kn (.tup []) (putJ H box ln (l ++ [⟨(l.length : Int) + 1, kind, names, vals, []⟩])) ck') :
    CallT ⟨Proofs.Tryz.prog, Γ, G0, r0, k0⟩ H ck 8 [.ptr box 0, .str kind, encStrs names, encInts vals] Kn := by
  obtain ⟨hb, hl, hlo1, hlo2, hne, hf, hn⟩ := hJ
  have f1 := fun d => hf (ck + 1, d) (by show ck < ck + 1; omega)
  have f2 := fun d => hf (ck + 1 + 1, d) (by show ck < ck + 1 + 1; omega)
  have f3 := fun d => hf (ck + 1 + 1 + 1, d) (by show ck < ck + 1 + 1 + 1; omega)
  have e2 := fun d => freshF (l := ln) (ck := ck) (c := ck + 1 + 1) (d := d) hlo2 (by omega)
  have e3 := fun d => freshG (l := ln) (ck := ck) (c := ck + 1 + 1) (d := d) hlo2 (by omega)
  have e4 := fun d => freshF (l := box) (ck := ck) (c := ck + 1 + 1) (d := d) hlo1 (by omega)
  have e5 := fun d => freshG (l := box) (ck := ck) (c := ck + 1 + 1) (d := d) hlo1 (by omega)
  have hne2 : ¬ ln = box := fun q => hne q.symm
  refine CallT.less (CallT.inline hX Proofs.Tryz.func8 rfl foll (D := D8) (by kernel_rfl) (tab []) (tab_ok trivial) fun k1 => ?_)
  simp only [Proofs.Tryz.f8]
  rw [app_mkT (Nat.le_of_ble_eq_true rfl)]
  simp (maxSteps := 400000) only [go_sem, ↓upXAbsY, ↓upXAbsZa, ↓upXOffC, hb, hl, f1, f2, f3, e2, e3, e4, e5, hne, hne2, encStrs, encInts]
  refine ⟨by omega, inK_of (by omega) (by omega), ⟨by omega, by omega, row_ok rfl (ones_ev ⟨(l.length : Int) + 1, kind, names, vals, []⟩)⟩, _, putJ_le (ck := ck) (l := l ++ [⟨(l.length : Int) + 1, kind, names, vals, []⟩]) hne hf (fun q h1 h2 h3 => ?_) ?_ ⟨_, ?_, objLe_snoc rfl fun j hj => snocE (f := encEv) rfl rfl hj⟩, hKn _ (by omega)⟩
  · rw [updH_ne h2, updH_ne h3, updH_ne (by rintro rfl; simp at h1; omega)]
  · rw [updH_same, List.length_append]; rfl
  · rw [updH_ne hne2, updH_same]; rfl

end Go.Fly.Tryz
end
section
/- The office: what is asked about a name; the number of a house; numbers as words. -/
set_option maxRecDepth 100000
set_option maxHeartbeats 1000000
namespace Go.Fly.Tryz
open Go Off

theorem oAsked_ok : Holds Proofs.Tryz.prog G0 55 askC := by
  refine Holds.of_exC D55 Proofs.Tryz.func55 rfl foll (by kernel_rfl) (tab [(46, replC), (49, whenC), (102, containsC), (104, namesC)]) (tab_ok ⟨oReplayed_ok, oWhen_ok, sContains_ok, oNames_ok, trivial⟩) G0_ok fun k0 rl args hpu hpre => ?_
  unfold askC at hpre ⊢
  obtain ⟨l, c, s, rfl, hl, hE⟩ := hpre
  simp only [arg_0, arg_1, arg_2, intOf_int, strOf_str, dec_evs]
  have hg := (replayed_good l).rl
  by_cases w : (replayed levelE l).2.2 = 0
  · have dw : decide ((replayed levelE l).2.2 = 0) = true := decide_eq_true w
    simp only [Proofs.Tryz.f55]
    rw [enter_mkT (Nat.le_of_ble_eq_true rfl)]
    simp (maxSteps := 4000000) only [go_sem, ↓upXAbsY, ↓upXAbsZa, ↓upXOffC, dw, Bool.not_true, encHist, encStrs]
    refine ⟨⟨l, rfl, hl, hE⟩, ⟨_, c, rfl, hg⟩, ⟨_, _, _, rfl, strsV (hg.names c)⟩, VEnt.of_eq ?_⟩
    unfold askE
    rw [if_neg (fun q => q w)]
  · have dw : decide ((replayed levelE l).2.2 = 0) = false := decide_eq_false w
    simp only [Proofs.Tryz.f55]
    rw [enter_mkT (Nat.le_of_ble_eq_true rfl)]
    simp (maxSteps := 4000000) only [go_sem, ↓upXAbsY, ↓upXAbsZa, ↓upXOffC, dw, Bool.not_false, encHist]
    refine ⟨⟨l, rfl, hl, hE⟩, VEnt.of_eq ?_⟩
    unfold askE
    rw [if_pos w]

theorem oNumQ_ok : Holds Proofs.Tryz.prog G0 17 numberQC := by
  refine Holds.of_exC D17 Proofs.Tryz.func17 rfl foll (by kernel_rfl) (tab [(55, askC), (56, chainC), (57, findC 104 encHo Reg.house), (58, numberC)]) (tab_ok ⟨oAsked_ok, oChain_ok, oHouse_ok, oNumber_ok, trivial⟩) G0_ok fun k0 rl args hpu hpre => ?_
  unfold numberQC at hpre ⊢
  obtain ⟨l, s, rfl, hl, hE⟩ := hpre
  simp only [arg_0, arg_1, strOf_str, dec_evs]
  have hg := replayed_good l
  by_cases w : askE l 104 s = 0
  · have dw : decide (askE l 104 s = 0) = true := decide_eq_true w
    obtain ⟨w1, w2⟩ := ask_zero w
    have hco := hg.ok.chain _ (house_mem w2)
    simp only [Proofs.Tryz.f17]
    rw [enter_mkT (Nat.le_of_ble_eq_true rfl)]
    simp (maxSteps := 4000000) only [go_sem, ↓upXAbsY, ↓upXAbsZa, ↓upXOffC, dw, Bool.not_true, encHist, encHo]
    refine ⟨⟨l, _, s, rfl, hl, hE⟩, ⟨_, s, rfl, hg.rl, w2⟩, ⟨_, _, rfl, hco⟩, ⟨_, rfl, its_ok hco⟩, VEnt.of_eq ?_⟩
    unfold numE
    rw [if_neg (fun q => q w)]
  · have dw : decide (askE l 104 s = 0) = false := decide_eq_false w
    simp only [Proofs.Tryz.f17]
    rw [enter_mkT (Nat.le_of_ble_eq_true rfl)]
    simp (maxSteps := 4000000) only [go_sem, ↓upXAbsY, ↓upXAbsZa, ↓upXOffC, dw, Bool.not_false, encHist]
    refine ⟨⟨l, _, s, rfl, hl, hE⟩, VEnt.of_eq ?_⟩
    unfold numE
    rw [if_pos w]

theorem eWords_ok : Holds Proofs.Tryz.prog G0 9 wordsC := by
  refine Holds.of_exC D9 Proofs.Tryz.func9 rfl foll (by kernel_rfl) (tab []) (tab_ok trivial) G0_ok fun k0 rl args hpu hpre => ?_
  unfold wordsC at hpre ⊢
  obtain ⟨n, get, rfl, hs⟩ := hpre
  simp only [arg_0]
  simp only [Proofs.Tryz.f9]
  rw [enter_mkT (Nat.le_of_ble_eq_true rfl)]
  simp (maxSteps := 4000000) only [go_sem, ↓upXAbsY, ↓upXAbsZa, ↓upXOffC]
  exact vent_dec hs

theorem qText_ok : Holds Proofs.Tryz.prog G0 10 text1C := by
  refine Holds.of_exC D10 Proofs.Tryz.func10 rfl foll (by kernel_rfl) (tab [(iceKey 20, iceC)]) (tab_ok ⟨ice_holds, trivial⟩) G0_ok fun k0 rl args hpu hpre => ?_
  unfold text1C at hpre ⊢
  obtain ⟨n, rfl, h0, h9⟩ := hpre
  simp only [arg_0, intOf_int]
  have hn : n = 0 ∨ n = 1 ∨ n = 2 ∨ n = 3 ∨ n = 4 ∨ n = 5 ∨ n = 6 ∨ n = 7 ∨ n = 8 ∨ n = 9 := by omega
  rcases hn with rfl | rfl | rfl | rfl | rfl | rfl | rfl | rfl | rfl | rfl
  · simp only [Proofs.Tryz.f10]
    rw [enter_mkT (Nat.le_of_ble_eq_true rfl)]
    simp (maxSteps := 4000000) only [go_sem, ↓upXAbsY, ↓upXAbsZa, ↓upXOffC]
    exact VEnt.of_eq rfl
  · simp only [Proofs.Tryz.f10]
    rw [enter_mkT (Nat.le_of_ble_eq_true rfl)]
    simp (maxSteps := 4000000) only [go_sem, ↓upXAbsY, ↓upXAbsZa, ↓upXOffC]
    refine RestT.loopF (β := Nat) [(3, 4), (8, 23)] (fun i => [(3, .str (if i = 0 then [] else dig 1)), (4, .int .i64 (if i = 0 then 1 else 0))]) (fun _ => fun _ => none) (fun i => i ≤ 1) (fun i => 1 - i) 0 (Nat.zero_le _) ?_ HpLe.none ?_
    · simp (maxSteps := 4000000) only [go_sem, ↓upXAbsY, ↓upXAbsZa, ↓upXOffC]
      try exact ⟨rfl, rfl⟩
    · intro ck i hck hi
      generalize hq0 : exC _ _ _ _ _ = gg
      have hi : i = 0 ∨ i = 1 := by have : i ≤ 1 := hi; omega
      rcases hi with rfl | rfl
      · rw [← hq0]
        clear hq0
        have t1 : Int.tmod 1 10 = 1 := by decide
        have t2 : max (1 : Int) (0 - 1) = 1 := by decide
        have t3 : IntKind.u8.wrap (48 + 1) = 49 := by decide
        have t4 : Int.tdiv 1 10 = 0 := by decide
        simp (maxSteps := 4000000) only [go_sem, ↓upXAbsY, ↓upXAbsZa, ↓upXOffC, if_true, t1, t2, t3, t4, w8]
        exact ⟨inK_of (by decide) (by decide), inK_of (by decide) (by decide), ⟨by decide, fun i hi => by obtain rfl : i = 0 := (by omega); rfl⟩, by simp [bytesV], inK_of (by decide) (by decide), by omega, 1, by decide, by decide, ⟨rfl, rfl⟩, HpLe.none⟩
      · rw [← hq0]
        clear hq0
        simp (maxSteps := 4000000) only [go_sem, ↓upXAbsY, ↓upXAbsZa, ↓upXOffC, if_false]
        exact VEnt.refl _
  · simp only [Proofs.Tryz.f10]
    rw [enter_mkT (Nat.le_of_ble_eq_true rfl)]
    simp (maxSteps := 4000000) only [go_sem, ↓upXAbsY, ↓upXAbsZa, ↓upXOffC]
    refine RestT.loopF (β := Nat) [(3, 4), (8, 23)] (fun i => [(3, .str (if i = 0 then [] else dig 2)), (4, .int .i64 (if i = 0 then 2 else 0))]) (fun _ => fun _ => none) (fun i => i ≤ 1) (fun i => 1 - i) 0 (Nat.zero_le _) ?_ HpLe.none ?_
    · simp (maxSteps := 4000000) only [go_sem, ↓upXAbsY, ↓upXAbsZa, ↓upXOffC]
      try exact ⟨rfl, rfl⟩
    · intro ck i hck hi
      generalize hq0 : exC _ _ _ _ _ = gg
      have hi : i = 0 ∨ i = 1 := by have : i ≤ 1 := hi; omega
      rcases hi with rfl | rfl
      · rw [← hq0]
        clear hq0
        have t1 : Int.tmod 2 10 = 2 := by decide
        have t2 : max (2 : Int) (0 - 2) = 2 := by decide
        have t3 : IntKind.u8.wrap (48 + 2) = 50 := by decide
        have t4 : Int.tdiv 2 10 = 0 := by decide
        simp (maxSteps := 4000000) only [go_sem, ↓upXAbsY, ↓upXAbsZa, ↓upXOffC, if_true, t1, t2, t3, t4, w8]
        exact ⟨inK_of (by decide) (by decide), inK_of (by decide) (by decide), ⟨by decide, fun i hi => by obtain rfl : i = 0 := (by omega); rfl⟩, by simp [bytesV], inK_of (by decide) (by decide), by omega, 1, by decide, by decide, ⟨rfl, rfl⟩, HpLe.none⟩
      · rw [← hq0]
        clear hq0
        simp (maxSteps := 4000000) only [go_sem, ↓upXAbsY, ↓upXAbsZa, ↓upXOffC, if_false]
        exact VEnt.refl _
  · simp only [Proofs.Tryz.f10]
    rw [enter_mkT (Nat.le_of_ble_eq_true rfl)]
    simp (maxSteps := 4000000) only [go_sem, ↓upXAbsY, ↓upXAbsZa, ↓upXOffC]
    refine RestT.loopF (β := Nat) [(3, 4), (8, 23)] (fun i => [(3, .str (if i = 0 then [] else dig 3)), (4, .int .i64 (if i = 0 then 3 else 0))]) (fun _ => fun _ => none) (fun i => i ≤ 1) (fun i => 1 - i) 0 (Nat.zero_le _) ?_ HpLe.none ?_
    · simp (maxSteps := 4000000) only [go_sem, ↓upXAbsY, ↓upXAbsZa, ↓upXOffC]
      try exact ⟨rfl, rfl⟩
    · intro ck i hck hi
      generalize hq0 : exC _ _ _ _ _ = gg
      have hi : i = 0 ∨ i = 1 := by have : i ≤ 1 := hi; omega
      rcases hi with rfl | rfl
      · rw [← hq0]
        clear hq0
        have t1 : Int.tmod 3 10 = 3 := by decide
        have t2 : max (3 : Int) (0 - 3) = 3 := by decide
        have t3 : IntKind.u8.wrap (48 + 3) = 51 := by decide
        have t4 : Int.tdiv 3 10 = 0 := by decide
        simp (maxSteps := 4000000) only [go_sem, ↓upXAbsY, ↓upXAbsZa, ↓upXOffC, if_true, t1, t2, t3, t4, w8]
        exact ⟨inK_of (by decide) (by decide), inK_of (by decide) (by decide), ⟨by decide, fun i hi => by obtain rfl : i = 0 := (by omega); rfl⟩, by simp [bytesV], inK_of (by decide) (by decide), by omega, 1, by decide, by decide, ⟨rfl, rfl⟩, HpLe.none⟩
      · rw [← hq0]
        clear hq0
        simp (maxSteps := 4000000) only [go_sem, ↓upXAbsY, ↓upXAbsZa, ↓upXOffC, if_false]
        exact VEnt.refl _
  · simp only [Proofs.Tryz.f10]
    rw [enter_mkT (Nat.le_of_ble_eq_true rfl)]
    simp (maxSteps := 4000000) only [go_sem, ↓upXAbsY, ↓upXAbsZa, ↓upXOffC]
    refine RestT.loopF (β := Nat) [(3, 4), (8, 23)] (fun i => [(3, .str (if i = 0 then [] else dig 4)), (4, .int .i64 (if i = 0 then 4 else 0))]) (fun _ => fun _ => none) (fun i => i ≤ 1) (fun i => 1 - i) 0 (Nat.zero_le _) ?_ HpLe.none ?_
    · simp (maxSteps := 4000000) only [go_sem, ↓upXAbsY, ↓upXAbsZa, ↓upXOffC]
      try exact ⟨rfl, rfl⟩
    · intro ck i hck hi
      generalize hq0 : exC _ _ _ _ _ = gg
      have hi : i = 0 ∨ i = 1 := by have : i ≤ 1 := hi; omega
      rcases hi with rfl | rfl
      · rw [← hq0]
        clear hq0
        have t1 : Int.tmod 4 10 = 4 := by decide
        have t2 : max (4 : Int) (0 - 4) = 4 := by decide
        have t3 : IntKind.u8.wrap (48 + 4) = 52 := by decide
        have t4 : Int.tdiv 4 10 = 0 := by decide
        simp (maxSteps := 4000000) only [go_sem, ↓upXAbsY, ↓upXAbsZa, ↓upXOffC, if_true, t1, t2, t3, t4, w8]
        exact ⟨inK_of (by decide) (by decide), inK_of (by decide) (by decide), ⟨by decide, fun i hi => by obtain rfl : i = 0 := (by omega); rfl⟩, by simp [bytesV], inK_of (by decide) (by decide), by omega, 1, by decide, by decide, ⟨rfl, rfl⟩, HpLe.none⟩
      · rw [← hq0]
        clear hq0
        simp (maxSteps := 4000000) only [go_sem, ↓upXAbsY, ↓upXAbsZa, ↓upXOffC, if_false]
        exact VEnt.refl _
  · simp only [Proofs.Tryz.f10]
    rw [enter_mkT (Nat.le_of_ble_eq_true rfl)]
    simp (maxSteps := 4000000) only [go_sem, ↓upXAbsY, ↓upXAbsZa, ↓upXOffC]
    refine RestT.loopF (β := Nat) [(3, 4), (8, 23)] (fun i => [(3, .str (if i = 0 then [] else dig 5)), (4, .int .i64 (if i = 0 then 5 else 0))]) (fun _ => fun _ => none) (fun i => i ≤ 1) (fun i => 1 - i) 0 (Nat.zero_le _) ?_ HpLe.none ?_
    · simp (maxSteps := 4000000) only [go_sem, ↓upXAbsY, ↓upXAbsZa, ↓upXOffC]
      try exact ⟨rfl, rfl⟩
    · intro ck i hck hi
      generalize hq0 : exC _ _ _ _ _ = gg
      have hi : i = 0 ∨ i = 1 := by have : i ≤ 1 := hi; omega
      rcases hi with rfl | rfl
      · rw [← hq0]
        clear hq0
        have t1 : Int.tmod 5 10 = 5 := by decide
        have t2 : max (5 : Int) (0 - 5) = 5 := by decide
        have t3 : IntKind.u8.wrap (48 + 5) = 53 := by decide
        have t4 : Int.tdiv 5 10 = 0 := by decide
        simp (maxSteps := 4000000) only [go_sem, ↓upXAbsY, ↓upXAbsZa, ↓upXOffC, if_true, t1, t2, t3, t4, w8]
        exact ⟨inK_of (by decide) (by decide), inK_of (by decide) (by decide), ⟨by decide, fun i hi => by obtain rfl : i = 0 := (by omega); rfl⟩, by simp [bytesV], inK_of (by decide) (by decide), by omega, 1, by decide, by decide, ⟨rfl, rfl⟩, HpLe.none⟩
      · rw [← hq0]
        clear hq0
        simp (maxSteps := 4000000) only [go_sem, ↓upXAbsY, ↓upXAbsZa, ↓upXOffC, if_false]
        exact VEnt.refl _
  · simp only [Proofs.Tryz.f10]
    rw [enter_mkT (Nat.le_of_ble_eq_true rfl)]
    simp (maxSteps := 4000000) only [go_sem, ↓upXAbsY, ↓upXAbsZa, ↓upXOffC]
    refine RestT.loopF (β := Nat) [(3, 4), (8, 23)] (fun i => [(3, .str (if i = 0 then [] else dig 6)), (4, .int .i64 (if i = 0 then 6 else 0))]) (fun _ => fun _ => none) (fun i => i ≤ 1) (fun i => 1 - i) 0 (Nat.zero_le _) ?_ HpLe.none ?_
    · simp (maxSteps := 4000000) only [go_sem, ↓upXAbsY, ↓upXAbsZa, ↓upXOffC]
      try exact ⟨rfl, rfl⟩
    · intro ck i hck hi
      generalize hq0 : exC _ _ _ _ _ = gg
      have hi : i = 0 ∨ i = 1 := by have : i ≤ 1 := hi; omega
      rcases hi with rfl | rfl
      · rw [← hq0]
        clear hq0
        have t1 : Int.tmod 6 10 = 6 := by decide
        have t2 : max (6 : Int) (0 - 6) = 6 := by decide
        have t3 : IntKind.u8.wrap (48 + 6) = 54 := by decide
        have t4 : Int.tdiv 6 10 = 0 := by decide
        simp (maxSteps := 4000000) only [go_sem, ↓upXAbsY, ↓upXAbsZa, ↓upXOffC, if_true, t1, t2, t3, t4, w8]
        exact ⟨inK_of (by decide) (by decide), inK_of (by decide) (by decide), ⟨by decide, fun i hi => by obtain rfl : i = 0 := (by omega); rfl⟩, by simp [bytesV], inK_of (by decide) (by decide), by omega, 1, by decide, by decide, ⟨rfl, rfl⟩, HpLe.none⟩
      · rw [← hq0]
        clear hq0
        simp (maxSteps := 4000000) only [go_sem, ↓upXAbsY, ↓upXAbsZa, ↓upXOffC, if_false]
        exact VEnt.refl _
  · simp only [Proofs.Tryz.f10]
    rw [enter_mkT (Nat.le_of_ble_eq_true rfl)]
    simp (maxSteps := 4000000) only [go_sem, ↓upXAbsY, ↓upXAbsZa, ↓upXOffC]
    refine RestT.loopF (β := Nat) [(3, 4), (8, 23)] (fun i => [(3, .str (if i = 0 then [] else dig 7)), (4, .int .i64 (if i = 0 then 7 else 0))]) (fun _ => fun _ => none) (fun i => i ≤ 1) (fun i => 1 - i) 0 (Nat.zero_le _) ?_ HpLe.none ?_
    · simp (maxSteps := 4000000) only [go_sem, ↓upXAbsY, ↓upXAbsZa, ↓upXOffC]
      try exact ⟨rfl, rfl⟩
    · intro ck i hck hi
      generalize hq0 : exC _ _ _ _ _ = gg
      have hi : i = 0 ∨ i = 1 := by have : i ≤ 1 := hi; omega
      rcases hi with rfl | rfl
      · rw [← hq0]
        clear hq0
        have t1 : Int.tmod 7 10 = 7 := by decide
        have t2 : max (7 : Int) (0 - 7) = 7 := by decide
        have t3 : IntKind.u8.wrap (48 + 7) = 55 := by decide
        have t4 : Int.tdiv 7 10 = 0 := by decide
        simp (maxSteps := 4000000) only [go_sem, ↓upXAbsY, ↓upXAbsZa, ↓upXOffC, if_true, t1, t2, t3, t4, w8]
        exact ⟨inK_of (by decide) (by decide), inK_of (by decide) (by decide), ⟨by decide, fun i hi => by obtain rfl : i = 0 := (by omega); rfl⟩, by simp [bytesV], inK_of (by decide) (by decide), by omega, 1, by decide, by decide, ⟨rfl, rfl⟩, HpLe.none⟩
      · rw [← hq0]
        clear hq0
        simp (maxSteps := 4000000) only [go_sem, ↓upXAbsY, ↓upXAbsZa, ↓upXOffC, if_false]
        exact VEnt.refl _
  · simp only [Proofs.Tryz.f10]
    rw [enter_mkT (Nat.le_of_ble_eq_true rfl)]
    simp (maxSteps := 4000000) only [go_sem, ↓upXAbsY, ↓upXAbsZa, ↓upXOffC]
    refine RestT.loopF (β := Nat) [(3, 4), (8, 23)] (fun i => [(3, .str (if i = 0 then [] else dig 8)), (4, .int .i64 (if i = 0 then 8 else 0))]) (fun _ => fun _ => none) (fun i => i ≤ 1) (fun i => 1 - i) 0 (Nat.zero_le _) ?_ HpLe.none ?_
    · simp (maxSteps := 4000000) only [go_sem, ↓upXAbsY, ↓upXAbsZa, ↓upXOffC]
      try exact ⟨rfl, rfl⟩
    · intro ck i hck hi
      generalize hq0 : exC _ _ _ _ _ = gg
      have hi : i = 0 ∨ i = 1 := by have : i ≤ 1 := hi; omega
      rcases hi with rfl | rfl
      · rw [← hq0]
        clear hq0
        have t1 : Int.tmod 8 10 = 8 := by decide
        have t2 : max (8 : Int) (0 - 8) = 8 := by decide
        have t3 : IntKind.u8.wrap (48 + 8) = 56 := by decide
        have t4 : Int.tdiv 8 10 = 0 := by decide
        simp (maxSteps := 4000000) only [go_sem, ↓upXAbsY, ↓upXAbsZa, ↓upXOffC, if_true, t1, t2, t3, t4, w8]
        exact ⟨inK_of (by decide) (by decide), inK_of (by decide) (by decide), ⟨by decide, fun i hi => by obtain rfl : i = 0 := (by omega); rfl⟩, by simp [bytesV], inK_of (by decide) (by decide), by omega, 1, by decide, by decide, ⟨rfl, rfl⟩, HpLe.none⟩
      · rw [← hq0]
        clear hq0
        simp (maxSteps := 4000000) only [go_sem, ↓upXAbsY, ↓upXAbsZa, ↓upXOffC, if_false]
        exact VEnt.refl _
  · simp only [Proofs.Tryz.f10]
    rw [enter_mkT (Nat.le_of_ble_eq_true rfl)]
    simp (maxSteps := 4000000) only [go_sem, ↓upXAbsY, ↓upXAbsZa, ↓upXOffC]
    refine RestT.loopF (β := Nat) [(3, 4), (8, 23)] (fun i => [(3, .str (if i = 0 then [] else dig 9)), (4, .int .i64 (if i = 0 then 9 else 0))]) (fun _ => fun _ => none) (fun i => i ≤ 1) (fun i => 1 - i) 0 (Nat.zero_le _) ?_ HpLe.none ?_
    · simp (maxSteps := 4000000) only [go_sem, ↓upXAbsY, ↓upXAbsZa, ↓upXOffC]
      try exact ⟨rfl, rfl⟩
    · intro ck i hck hi
      generalize hq0 : exC _ _ _ _ _ = gg
      have hi : i = 0 ∨ i = 1 := by have : i ≤ 1 := hi; omega
      rcases hi with rfl | rfl
      · rw [← hq0]
        clear hq0
        have t1 : Int.tmod 9 10 = 9 := by decide
        have t2 : max (9 : Int) (0 - 9) = 9 := by decide
        have t3 : IntKind.u8.wrap (48 + 9) = 57 := by decide
        have t4 : Int.tdiv 9 10 = 0 := by decide
        simp (maxSteps := 4000000) only [go_sem, ↓upXAbsY, ↓upXAbsZa, ↓upXOffC, if_true, t1, t2, t3, t4, w8]
        exact ⟨inK_of (by decide) (by decide), inK_of (by decide) (by decide), ⟨by decide, fun i hi => by obtain rfl : i = 0 := (by omega); rfl⟩, by simp [bytesV], inK_of (by decide) (by decide), by omega, 1, by decide, by decide, ⟨rfl, rfl⟩, HpLe.none⟩
      · rw [← hq0]
        clear hq0
        simp (maxSteps := 4000000) only [go_sem, ↓upXAbsY, ↓upXAbsZa, ↓upXOffC, if_false]
        exact VEnt.refl _
end Go.Fly.Tryz
end
section
/- The balance of entries. -/
set_option maxRecDepth 100000
set_option maxHeartbeats 1000000
namespace Go.Fly.Tryz
open Go Off
structure BS where
  i : Nat
  es : Array MapEntry
  c : Nat
  b : Int
  p : List Str
structure BInv (l : List BE) (s : BS) : Prop where
  le : s.i ≤ l.length
  eq : balL l 0 [] = balL (l.drop s.i) s.b s.p
  bd : 0 ≤ s.b ∧ s.b ≤ 100000000 * s.i
  ent : ∀ e ∈ s.es.toList, (∃ s' : List UInt8, e.key = .string ⟨s'.toArray⟩) ∧ e.val = .bool true
  mem : ∀ x, x ∈ s.p ↔ ∃ e ∈ s.es.toList, e.key = .string ⟨x.toArray⟩

end Go.Fly.Tryz
end
section
/- The fixed example of the laws on the office. -/
set_option maxRecDepth 100000
set_option maxHeartbeats 400000
namespace Go.Fly.Tryz
open Go Off

theorem eAdd0_call {Γ : FuncId → Option Contract} {r0 : Option Nat} {k0 : K} {H : Heap} {ck : Nat} {Kn : V → Heap → Nat → Prop} (hX : (⟨Proofs.Tryz.prog, Γ, G0, r0, k0⟩ : Cx).Ok) {box : Loc} {kind : Str} {names : List Str} {vals : List Int}
    (hb : H box = some (.cells [.nils])) (hlo1 : box.1 ≤ ck) (hbo : box.2 < 1000) (hk : H (ck, 1000) = none) (hf : ∀ q : Loc, ck < q.1 → H q = none)
    (hKn : ∀ ck', ck ≤ ck' → Kn (.tup []) (putJ H box (ck, 1000) [⟨1, kind, names, vals, []⟩]) ck') :
    CallT ⟨Proofs.Tryz.prog, Γ, G0, r0, k0⟩ H ck 8 [.ptr box 0, .str kind, encStrs names, encInts vals] Kn := by
  have hne : ¬ box = (ck, 1000) := by rintro rfl; simp at hbo
  have hne2 : ¬ (ck, 1000) = box := fun q => hne q.symm
  refine CallT.pre (ck2 := ck) (args2 := [.ptr box 0, .str kind, encStrs names, encInts vals]) (hp2 := updH (updH H (ck, 1000) (.arr 0 5 fun i => encEv (el [] i))) box (.cells [.msl (ck, 1000) 0 0])) (fun k0 => ?_) ?_
  · exact Ents.nilC (s := ⟨ck, _, H⟩) (l := (ck, 1000)) (l2 := box) (cs := [.nils]) (j := 0) 5 (fun i => encEv (el [] i)) hne hb rfl hk rfl
  · refine eAdd_call hX (box := box) (ln := (ck, 1000)) (l := []) ⟨updH_same _ _ _, by rw [updH_ne hne2, updH_same]; rfl, hlo1, Nat.le_refl _, hne, fun q hq => ?_, by decide⟩ fun ck' hck => ?_
    · rw [updH_ne (by rintro rfl; omega), updH_ne (by rintro rfl; simp at hq)]; exact hf q hq
    · have e : putJ (updH (updH H (ck, 1000) (.arr 0 5 fun i => encEv (el [] i))) box (.cells [.msl (ck, 1000) 0 0])) box (ck, 1000) [⟨1, kind, names, vals, []⟩] = putJ H box (ck, 1000) [⟨1, kind, names, vals, []⟩] := by
        funext q
        by_cases q1 : q = (ck, 1000)
        · subst q1; rw [putJ_ln, putJ_ln]
        · by_cases q2 : q = box
          · subst q2; rw [putJ_box hne, putJ_box hne]
          · rw [putJ_ne q2 q1, putJ_ne q2 q1, updH_ne q2, updH_ne q1]
      have := hKn ck' hck
      rw [← e] at this
      exact this

theorem eNumber_ok : Holds Proofs.Tryz.prog G0 7 eNumberC := by
  refine Holds.of_exC D7 Proofs.Tryz.func7 rfl foll (by kernel_rfl) (tab [(9, wordsC), (17, numberQC), (18, eHouseC), (19, outdoorC), (45, indoorC), (iceKey 9, iceC), (iceKey 11, iceC), (iceKey 13, iceC), (iceKey 15, iceC), (iceKey 17, iceC), (iceKey 19, iceC), (iceKey 28, iceC), (iceKey 34, iceC), (inlKey 12, iceC), (inlKey 16, iceC), (inlKey 20, iceC)]) (tab_ok ⟨eWords_ok, oNumQ_ok, eHouse_ok, hOutdoor_ok, hIndoor_ok, ice_holds, ice_holds, ice_holds, ice_holds, ice_holds, ice_holds, ice_holds, ice_holds, ice_holds, ice_holds, ice_holds, trivial⟩) G0_ok fun k0 rl args hpu hpre => ?_
  unfold eNumberC at hpre ⊢
  obtain rfl : _ = _ := hpre
  simp only [Proofs.Tryz.f7]
  rw [enter_mkT (Nat.le_of_ble_eq_true rfl)]
  simp (maxSteps := 4000000) only [go_sem, ↓upXAbsY, ↓upXAbsZa, ↓upXOffC, ↓callT_hide, ↓extT_hide]
  refine ⟨⟨⟨_, _, rfl, lit1_ok⟩, .inl (pu_litS [_])⟩, .inl fun hX2 => callH_clean (hp2 := updH (fun _ => none) (3, 1) (.cells [.nils])) ?_ (tmLe_refl _) (callT_vent4 (VEnt.refl _) (vent_rowI [1, 100000000]) (eAdd0_call hX2 (updH_same _ _ _) (by decide) (by decide) (by rw [updH_ne (by simp)]) (fun q hq => by rw [updH_ne (by rintro rfl; simp at hq)]) fun ck1 hck1 => ?_))⟩
  · exact HpLe.upd HpLe.none ⟨_, by simp [updH], ObjLe.refl _⟩
  have j1 : JAt (putJ (updH (fun _ => none) (3, 1) (.cells [.nils])) (3, 1) (4 + 1, 1000) [⟨1, [116, 121, 112, 101], [[106, 101, 116]], [1, 100000000], []⟩]) (3, 1) (4 + 1, 1000) [⟨1, [116, 121, 112, 101], [[106, 101, 116]], [1, 100000000], []⟩] ck1 :=
    ⟨putJ_box (by simp), putJ_ln, by omega, by omega, by simp, fun q hq => by rw [putJ_ne (by rintro rfl; omega) (by rintro rfl; omega), updH_ne (by rintro rfl; omega)], by decide⟩
  generalize putJ _ _ _ _ = S1 at j1 ⊢
  have h1 := j1.atb
  have h2 := j1.atl
  have g1 := fun d => j1.free (ck1 + 1, d) (Nat.lt_succ_self _)
  simp (maxSteps := 400000) only [go_sem, ↓upXAbsY, ↓upXAbsZa, ↓upXOffC, ↓callT_hide, ↓extT_hide, h1, h2, g1]
  refine ⟨⟨⟨_, _, rfl, lit1_ok⟩, .inl (pu_litS [_])⟩, .inl fun hX3 => callH_clean (hp2 := S1) (hpLe_up j1.free fun q hq => ?_) (tmLe_refl _) (callT_vent4 (VEnt.refl _) (vent_rowI [1, 500]) (eAdd_call hX3 (j1.mono (by omega)) fun ck2 hck2 => ?_))⟩
  · repeat rw [updH_ne (by rintro rfl; simp at hq; omega)]
  generalize hL2 : (_ : List Ev) ++ _ = L2
  have j2 := (j1.put (m := L2) (by rw [← hL2]; decide)).mono (ck' := ck2) (by omega)
  generalize putJ _ _ _ _ = S2 at j2 ⊢
  clear h1 h2 g1
  have h1 := j2.atb
  have h2 := j2.atl
  have g1 := fun d => j2.free (ck2 + 1, d) (Nat.lt_succ_self _)
  simp (maxSteps := 400000) only [go_sem, ↓upXAbsY, ↓upXAbsZa, ↓upXOffC, ↓callT_hide, ↓extT_hide, h1, h2, g1]
  refine ⟨⟨⟨_, _, rfl, two_ok⟩, .inl (pu_litS [_, _])⟩, .inl fun hX4 => callH_clean (hp2 := S2) (hpLe_up j2.free fun q hq => ?_) (tmLe_refl _) (callT_vent4 (VEnt.refl _) (vent_rowI [1, 5]) (eAdd_call hX4 (j2.mono (by omega)) fun ck3 hck3 => ?_))⟩
  · repeat rw [updH_ne (by rintro rfl; simp at hq; omega)]
  generalize hL3 : (_ : List Ev) ++ _ = L3
  have j3 := (j2.put (m := L3) (by rw [← hL3, ← hL2]; decide)).mono (ck' := ck3) (by omega)
  generalize putJ _ _ _ _ = S3 at j3 ⊢
  clear h1 h2 g1
  have h1 := j3.atb
  have h2 := j3.atl
  have g1 := fun d => j3.free (ck3 + 1, d) (Nat.lt_succ_self _)
  have g2 := fun d => j3.free (ck3 + 1 + 1, d) (by show ck3 < ck3 + 1 + 1; omega)
  have g3 := fun d => j3.free (ck3 + 1 + 1 + 1, d) (by show ck3 < ck3 + 1 + 1 + 1; omega)
  simp (maxSteps := 400000) only [go_sem, ↓upXAbsY, ↓upXAbsZa, ↓upXOffC, ↓callT_hide, ↓extT_hide, h1, h2, g1, g2, g3, Nat.zero_add]
  have e3 : L3 = exL := by rw [← hL3, ← hL2]; rfl
  have hnum : numE L3 [97] = (50000000, 67, 0) := by rw [e3]; exact exL_num
  have hE : ∀ e ∈ L3, EvB e := by rw [e3]; exact exL_ok
  have hlen := j3.len
  rw [hnum]
  have key : (∃ s n get, [V.str [97], V.sl 1 1 (rowAt [V.int .i64 50000000] 1)] = [V.str s, V.sl n 1 get] ∧ IsInts n get) ∧ (Pu (.sl 1 1 (rowAt [V.int .i64 50000000] 1)) ∨ NoSl (homeV [97] (gE 1 (rowAt [V.int .i64 50000000] 1)))) := ⟨⟨_, _, _, rfl, litI_ok⟩, .inl (pu_litI [_])⟩
  have key2 : ∃ s f, [homeV [97] (gE 1 (rowAt [V.int .i64 50000000] 1))] = [homeV s f] ∧ nameB s = true ∧ OutOk f := ⟨_, _, rfl, by decide, ex_out⟩
  refine ⟨⟨⟨L3, _, rfl, by omega, hE⟩, noSlT3⟩, key, key2, key, key2, fun _ => ⟨fun _ => ⟨fun _ => ⟨fun _ => VEnt.of_eq ?_, fun h => absurd ex_sum h⟩, fun h => absurd rfl h⟩, fun h => absurd rfl h⟩, fun h => absurd rfl h⟩
  rw [ex_sum]
  rfl
end Go.Fly.Tryz
end
