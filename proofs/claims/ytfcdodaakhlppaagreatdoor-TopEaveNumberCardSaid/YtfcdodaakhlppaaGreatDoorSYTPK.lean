/- Part of a proof: an evaluator of the model's code by abstract values, and plain laws for it. No conditions. -/
import Derived.Test.YtfcdodaakhlppaaGreatDoorSYTPI
import Derived.Test.YtfcdodaakhlppaaGreatDoorAW
set_option linter.unusedSimpArgs false
set_option linter.unusedVariables false
section
/- The journal of the law on the number of a house. -/
set_option maxRecDepth 100000
set_option maxHeartbeats 1000000
namespace Go.Fly.Tryz
open Go Off

theorem eOwnF_ok : Holds Proofs.Tryz.prog G0 11 ownEC := by
  refine Holds.of_exC D11 Proofs.Tryz.func11 rfl foll (by kernel_rfl) (tab []) (tab_ok trivial) G0_ok fun k0 rl args hpu hpre => ?_
  unfold ownEC at hpre ⊢
  obtain ⟨l, rfl, hn, hE⟩ := hpre
  simp only [arg_0, dec_evs]
  have hB := evb_lens hE
  simp only [Proofs.Tryz.f11]
  rw [enter_mkT (Nat.le_of_ble_eq_true rfl)]
  simp (maxSteps := 4000000) only [go_sem, ↓upXAbsY, ↓upXAbsZa, ↓upXOffC, encRows]
  refine RestT.ents (Ents.nilArr (d := 3) (l := (4, 1000)) 5 (fun _ => []) rfl rfl rfl) ?_
  simp (maxSteps := 400000) only [go_sem, ↓upXAbsY, ↓upXAbsZa, ↓upXOffC]
  refine RestT.loopF (β := Nat) [(3, 3), (5, 5), (8, 26)] (fun i => [(3, .msl (4, 1000) 0 i), (8, .int .i64 i)]) (fun i => updH (fun _ => none) (4, 1000) (.arr i 5 fun j => encEv (el l j))) (fun i => i ≤ l.length) (fun i => l.length - i) 0 (Nat.zero_le _) ?_ (HpLe.same ⟨rfl, rfl, fun i hi => absurd hi (Nat.not_lt_zero i)⟩) ?_
  · simp (maxSteps := 400000) only [go_sem, ↓upXAbsY, ↓upXAbsZa, ↓upXOffC]
    try exact rfl
  · intro c i hck hi
    have hi : i ≤ l.length := hi
    have hf : ∀ q : Loc, 3 < q.1 → (fun _ => none : Heap) q = none := fun q _ => rfl
    generalize hq0 : exC _ _ _ _ _ = gg
    by_cases hlt : i < l.length
    · have hd : decide ((i : Int) < (l.length : Int)) = true := by simp; omega
      obtain ⟨b1, b2⟩ := hB _ (el_mem hlt)
      have n4 : ¬ c = 3 := by omega
      rw [← hq0]
      clear hq0
      simp (maxSteps := 400000) only [go_sem, ↓upXAbsY, ↓upXAbsZa, ↓upXOffC, hd, Nat.zero_add, encEv, encStrs, encInts, Nat.not_lt_zero, if_false, Nat.sub_zero]
      refine ⟨⟨by omega, by omega⟩, ⟨by omega, by omega⟩, ⟨by omega, by omega⟩, ⟨by omega, by omega, row_ok0 rfl (ones_ev (el l i))⟩, inK_of (by omega) (by omega), i + 1, hlt, by omega, ⟨rfl, rfl⟩, hpLe_low hf (fun q hq => ?_) (o := .arr (i + 1) 5 fun j => if j < i then encEv (el l j) else rowAt (encEv (el l i)) 5 (0 + (j - i))) ?_ ⟨rfl, rfl, fun j hj => snoc (f := fun j => encEv (el l j)) rfl rfl hj⟩⟩
      · repeat rw [updH_ne (by rintro rfl; simp at hq <;> omega)]
      · simp [updH, encEv, encStrs, encInts]
    · have hd : decide ((i : Int) < (l.length : Int)) = false := by simp; omega
      obtain rfl : i = l.length := by omega
      rw [← hq0]
      clear hq0
      simp (maxSteps := 400000) only [go_sem, ↓upXAbsY, ↓upXAbsZa, ↓upXOffC, hd]
      rw [if_pos (Nat.zero_add _)]
      exact VEnt.of_eq (by simp only [Nat.zero_add])

theorem eJou_ok : Holds Proofs.Tryz.prog G0 15 jouC := by
  refine Holds.of_exC D15 Proofs.Tryz.func15 rfl foll (by kernel_rfl) (tab [(9, wordsC), (10, text1C), (iceKey 9, iceC), (iceKey 12, iceC), (iceKey 24, iceC), (iceKey 27, iceC), (iceKey 41, iceC), (iceKey 44, iceC), (iceKey 47, iceC), (iceKey 49, iceC), (inlKey 13, iceC), (inlKey 28, iceC), (inlKey 45, iceC), (inlKey 50, iceC)]) (tab_ok ⟨eWords_ok, qText_ok, ice_holds, ice_holds, ice_holds, ice_holds, ice_holds, ice_holds, ice_holds, ice_holds, ice_holds, ice_holds, ice_holds, ice_holds, trivial⟩) G0_ok fun k0 rl args hpu hpre => ?_
  unfold jouC at hpre ⊢
  obtain ⟨es, share, rfl, hok⟩ := hpre
  simp only [arg_0, arg_1, intOf_int, dec_ints]
  have hpu := pu_intsE es
  have hpu2 : Pu (.sl es.length 1 fun i => [.int .i64 (el es i)]) ↔ True := hpu
  obtain ⟨hlen, hbd, hsh⟩ := id hok
  simp only [Proofs.Tryz.f15]
  rw [enter_mkT (Nat.le_of_ble_eq_true rfl)]
  simp (maxSteps := 4000000) only [go_sem, ↓upXAbsY, ↓upXAbsZa, ↓upXOffC, ↓callT_hide, ↓extT_hide, hpu]
  refine ⟨⟨⟨_, _, rfl, lit1_ok⟩, .inl (pu_litS [_])⟩, .inl fun hX2 => callH_clean (hp2 := updH (fun _ => none) (3, 5) (.cells [.nils])) (HpLe.upd HpLe.none ⟨_, by simp [updH], ObjLe.refl _⟩) (tmLe_refl _) (callT_vent4 (VEnt.refl _) (vent_rowI [1, share]) (eAdd0_call hX2 (updH_same _ _ _) (by decide) (by decide) (by rw [updH_ne (by simp)]) (fun q hq => by rw [updH_ne (by rintro rfl; simp at hq)]) fun ck1 hck1 => ?_))⟩
  have j1 : JAt (putJ (updH (fun _ => none) (3, 5) (.cells [.nils])) (3, 5) (4 + 1, 1000) [⟨1, [104, 111, 117, 115, 101], [[97]], [1, share], []⟩]) (3, 5) (5, 1000) (jou1 es share 0) ck1 :=
    ⟨putJ_box (by simp), putJ_ln, by omega, by omega, by simp, fun q hq => by rw [putJ_ne (by rintro rfl; omega) (by rintro rfl; omega), updH_ne (by rintro rfl; omega)], by show 1 ≤ 1000; decide⟩
  generalize putJ _ _ _ _ = S1 at j1 ⊢
  simp (maxSteps := 400000) only [go_sem, ↓upXAbsY, ↓upXAbsZa, ↓upXOffC, ↓callT_hide, ↓extT_hide, encInts, hpu2]
  refine RestT.loopG (β := Heap × Nat) [(6, 7), (16, 29)] (fun b => [(16, .int .i64 b.2)]) (fun b => b.1) (fun c b => JAt b.1 (3, 5) (5, 1000) (jou1 es share b.2) c ∧ b.2 ≤ es.length) (fun b => es.length - b.2) ⟨S1, 0⟩ ?_ ?_ (HpLe.refl _) ?_
  · exact ⟨j1.mono (by show ck1 ≤ _; omega), Nat.zero_le _⟩
  · simp (maxSteps := 400000) only [go_sem, ↓upXAbsY, ↓upXAbsZa, ↓upXOffC]
    try exact rfl
  intro c b hck hI
  obtain ⟨S, i⟩ := b
  obtain ⟨hat, hle⟩ := hI
  have hat : JAt S (3, 5) (5, 1000) (jou1 es share i) c := hat
  have hle : i ≤ es.length := hle
  have h1 := hat.atb
  have h2 := hat.atl
  have g1 := fun d => hat.free (c + 1, d) (Nat.lt_succ_self _)
  have g2 := fun d => hat.free (c + 1 + 1, d) (by show c < c + 1 + 1; omega)
  have g3 := fun d => hat.free (c + 1 + 1 + 1, d) (by show c < c + 1 + 1 + 1; omega)
  generalize hq0 : exC _ _ _ _ _ = gg
  by_cases hi : i < es.length
  · have hd : decide ((i : Int) < (es.length : Int)) = true := decide_eq_true (by omega)
    rw [← hq0]
    clear hq0
    simp (maxSteps := 400000) only [go_sem, ↓upXAbsY, ↓upXAbsZa, ↓upXOffC, ↓callT_hide, ↓extT_hide, hd, h1, h2, g1, g2, g3, encInts]
    refine ⟨⟨by omega, by omega⟩, ⟨_, rfl, by omega, by omega⟩, by rw [dig_len]; decide, ⟨⟨_, _, rfl, lit1_ok⟩, .inl (pu_litS [_])⟩, .inl fun hX3 => callH_clean (hp2 := S) (hpLe_up hat.free fun q hq => ?_) (tmLe_refl _) (callT_vent4 (VEnt.refl _) (vent_rowI [1, el es i]) (eAdd_call hX3 (hat.mono (by omega)) fun ck2 hck2 => ?_))⟩
    · repeat rw [updH_ne (by rintro rfl; simp at hq; omega)]
    generalize hL2 : jou1 es share i ++ _ = L2
    obtain rfl := jou1_step rfl hL2
    have j2 := (hat.put (m := jou1 es share (i + 1)) (by rw [jou1_len]; omega)).mono (ck' := ck2) (by omega)
    generalize putJ _ _ _ _ = S2 at j2 ⊢
    simp (maxSteps := 400000) only [go_sem, ↓upXAbsY, ↓upXAbsZa, ↓upXOffC, ↓callT_hide, ↓extT_hide]
    exact ⟨inK_of (by omega) (by omega), by omega, ⟨S2, i + 1⟩, ⟨j2.mono (by omega), hi⟩, by show es.length - (i + 1) < es.length - i; omega, rfl, HpLe.refl _⟩
  · have hd : decide ((i : Int) < (es.length : Int)) = false := decide_eq_false (by omega)
    obtain rfl : i = es.length := by omega
    rw [← hq0]
    clear hq0
    simp (maxSteps := 400000) only [go_sem, ↓upXAbsY, ↓upXAbsZa, ↓upXOffC, ↓callT_hide, ↓extT_hide, hd, hpu2]
    refine ⟨_, fun x y q => q, ?_⟩
    simp (maxSteps := 400000) only [go_sem, ↓upXAbsY, ↓upXAbsZa, ↓upXOffC, ↓callT_hide, ↓extT_hide, hpu2]
    refine RestT.loopG (β := Heap × Nat) [(8, 8), (32, 46)] (fun b => [(32, .int .i64 b.2)]) (fun b => b.1) (fun c b => JAt b.1 (3, 5) (5, 1000) (jou2 es share b.2) c ∧ b.2 ≤ es.length) (fun b => es.length - b.2) ⟨S, 0⟩ ?_ ?_ (HpLe.refl _) ?_
    · exact ⟨hat.mono (by show c ≤ _; omega), Nat.zero_le _⟩
    · simp (maxSteps := 400000) only [go_sem, ↓upXAbsY, ↓upXAbsZa, ↓upXOffC]
      try exact rfl
    clear g1 g2 g3 h1 h2 hat hck
    intro c b hck hI
    obtain ⟨S, i⟩ := b
    obtain ⟨hat, hle⟩ := hI
    have hat : JAt S (3, 5) (5, 1000) (jou2 es share i) c := hat
    have hle : i ≤ es.length := hle
    have h1 := hat.atb
    have h2 := hat.atl
    have g1 := fun d => hat.free (c + 1, d) (Nat.lt_succ_self _)
    have g2 := fun d => hat.free (c + 1 + 1, d) (by show c < c + 1 + 1; omega)
    have g3 := fun d => hat.free (c + 1 + 1 + 1, d) (by show c < c + 1 + 1 + 1; omega)
    generalize hq0 : exC _ _ _ _ _ = gg
    by_cases hi : i < es.length
    · have hd : decide ((i : Int) < (es.length : Int)) = true := decide_eq_true (by omega)
      rw [← hq0]
      clear hq0
      simp (maxSteps := 400000) only [go_sem, ↓upXAbsY, ↓upXAbsZa, ↓upXOffC, ↓callT_hide, ↓extT_hide, hd, h1, h2, g1, g2, g3]
      refine ⟨⟨_, rfl, by omega, by omega⟩, by rw [dig_len]; decide, ⟨_, rfl, by omega, by omega⟩, by rw [dig_len]; decide, ⟨⟨_, _, rfl, two_ok⟩, .inl (pu_litS [_, _])⟩, .inl fun hX3 => callH_clean (hp2 := S) (hpLe_up hat.free fun q hq => ?_) (tmLe_refl _) (callT_vent4 (VEnt.refl _) (vent_rowI [1, (i : Int)]) (eAdd_call hX3 (hat.mono (by omega)) fun ck2 hck2 => ?_))⟩
      · repeat rw [updH_ne (by rintro rfl; simp at hq; omega)]
      generalize hL2 : jou2 es share i ++ _ = L2
      obtain rfl := jou2_step rfl hL2
      have j2 := (hat.put (m := jou2 es share (i + 1)) (by rw [jou2_len]; omega)).mono (ck' := ck2) (by omega)
      generalize putJ _ _ _ _ = S2 at j2 ⊢
      simp (maxSteps := 400000) only [go_sem, ↓upXAbsY, ↓upXAbsZa, ↓upXOffC, ↓callT_hide, ↓extT_hide]
      exact ⟨inK_of (by omega) (by omega), by omega, ⟨S2, i + 1⟩, ⟨j2.mono (by omega), hi⟩, by show es.length - (i + 1) < es.length - i; omega, rfl, HpLe.refl _⟩
    · have hd : decide ((i : Int) < (es.length : Int)) = false := decide_eq_false (by omega)
      obtain rfl : i = es.length := by omega
      rw [← hq0]
      clear hq0
      simp (maxSteps := 400000) only [go_sem, ↓upXAbsY, ↓upXAbsZa, ↓upXOffC, ↓callT_hide, ↓extT_hide, hd]
      refine ⟨_, fun x y q => q, ?_⟩
      simp (maxSteps := 400000) only [go_sem, ↓upXAbsY, ↓upXAbsZa, ↓upXOffC, ↓callT_hide, ↓extT_hide, h1, h2, g1, g2, g3]
      refine ⟨⟨⟨_, _, rfl, lit1_ok⟩, .inl (pu_litS [_])⟩, .inl fun hX3 => callH_clean (hp2 := S) (hpLe_up hat.free fun q hq => ?_) (tmLe_refl _) (callT_vent4 (VEnt.refl _) (vent_rowI [2]) (eAdd_call hX3 (hat.mono (by omega)) fun ck2 hck2 => ?_))⟩
      · repeat rw [updH_ne (by rintro rfl; simp at hq; omega)]
      generalize hL2 : jou2 es share es.length ++ _ = L2
      obtain rfl := jou_step rfl hL2
      have j2 := (hat.put (m := jou es share) (by rw [jou_len]; omega)).mono (ck' := ck2) (by omega)
      generalize putJ _ _ _ _ = S2 at j2 ⊢
      clear h1 h2 g1 g2 g3
      have h1 := j2.atb
      have h2 := j2.atl
      simp (maxSteps := 400000) only [go_sem, ↓upXAbsY, ↓upXAbsZa, ↓upXOffC, ↓callT_hide, ↓extT_hide, h1, h2]
      rw [if_pos (Nat.zero_add _)]
      exact VEnt.of_eq (by simp only [Nat.zero_add, encRows])
end Go.Fly.Tryz
end
section
/- The home of a house whose energies lie in a list of the caller's own. -/
set_option maxRecDepth 100000
set_option maxHeartbeats 1000000
namespace Go.Fly.Tryz
open Go Off
theorem eHouseM_call {Γ : FuncId → Option Contract} {r0 : Option Nat} {k0 : K} {H : Heap} {ck : Nat} {Kn : V → Heap → Nat → Prop} (hX : (⟨Proofs.Tryz.prog, Γ, G0, r0, k0⟩ : Cx).Ok) {T : Loc} {n : Nat} {get : Nat → List V} {s : Str}
    (hT : H T = some (.arr n 1 get)) (hn : IsInts n get) (hlo : T.1 ≤ ck) (hf : ∀ q : Loc, ck < q.1 → H q = none)
    (hKn : ∀ ck', ck ≤ ck' → Kn (homeV s (gE n get)) H ck') :
    CallT ⟨Proofs.Tryz.prog, Γ, G0, r0, k0⟩ H ck 18 [.str s, .msl T 0 n] Kn := by
  obtain ⟨_, hget⟩ := hn
  have f1 := fun d => hf (ck + 1, d) (by show ck < ck + 1; omega)
  have f2 := fun d => hf (ck + 1 + 1, d) (by show ck < ck + 1 + 1; omega)
  have f3 := fun d => hf (ck + 1 + 1 + 1, d) (by show ck < ck + 1 + 1 + 1; omega)
  have f4 := fun d => hf (ck + 1 + 1 + 1 + 1, d) (by show ck < ck + 1 + 1 + 1 + 1; omega)
  have t1 := fun d => freshF (l := T) (ck := ck) (c := ck + 1) (d := d) hlo (by omega)
  have t2 := fun d => freshF (l := T) (ck := ck) (c := ck + 1 + 1) (d := d) hlo (by omega)
  have t3 := fun d => freshF (l := T) (ck := ck) (c := ck + 1 + 1 + 1) (d := d) hlo (by omega)
  have u1 := fun d => freshG (l := T) (ck := ck) (c := ck + 1) (d := d) hlo (by omega)
  have u2 := fun d => freshG (l := T) (ck := ck) (c := ck + 1 + 1) (d := d) hlo (by omega)
  have u3 := fun d => freshG (l := T) (ck := ck) (c := ck + 1 + 1 + 1) (d := d) hlo (by omega)
  refine CallT.less (callT_postV (CallT.inline hX Proofs.Tryz.func18 rfl foll (D := D18) (by kernel_rfl) (tab [(iceKey 29, iceC)]) (tab_ok ⟨ice_holds, trivial⟩) fun k1 => ?_))
  simp only [Proofs.Tryz.f18]
  rw [app_mkT (Nat.le_of_ble_eq_true rfl)]
  simp (maxSteps := 400000) only [go_sem, ↓upXAbsY, ↓upXAbsZa, ↓upXOffC, hT, f1, f2, f3, f4, t1, t2, t3, u1, u2, u3]
  refine RestT.loopF (β := Nat) [(6, 6), (8, 26)] (fun i => [(8, .int .i64 i)]) (fun i => updH (updH H (ck + 1 + 1, 4) (.cells [.str [], .int .i64 0, .nils])) (ck + 1 + 1 + 1, 5) (.cells (hCells (gE n get) i))) (fun i => i ≤ 8) (fun i => 8 - i) 0 (Nat.zero_le _) ?_ ?_ ?_
  · simp (maxSteps := 400000) only [go_sem, ↓upXAbsY, ↓upXAbsZa, ↓upXOffC]
    try exact rfl
  · exact HpLe.upd (HpLe.upd (hpLe_up hf fun q hq => by repeat rw [updH_ne (by rintro rfl; simp at hq <;> omega)]) ⟨_, by simp [updH], ObjLe.refl _⟩) ⟨_, updH_same _ _ _, objLe_cells (by simp [hCells])⟩
  · intro c i hck hi
    generalize hq0 : exC _ _ _ _ _ = gg
    have c5 : ((5 : Nat) : Int) = 5 := rfl
    have c6 : ((6 : Nat) : Int) = 6 := rfl
    have c7 : ((7 : Nat) : Int) = 7 := rfl
    have hi : i = 0 ∨ i = 1 ∨ i = 2 ∨ i = 3 ∨ i = 4 ∨ i = 5 ∨ i = 6 ∨ i = 7 ∨ i = 8 := by have : i ≤ 8 := hi; omega
    rcases hi with rfl | rfl | rfl | rfl | rfl | rfl | rfl | rfl | rfl
    · by_cases hlt : 0 < n
      · have hd : decide ((0 : Int) < (n : Int)) = true := decide_eq_true (by omega)
        have hg := hget 0 hlt
        have hgE : gE n get 0 = intAt get 0 := if_pos hlt
        rw [← hq0]
        clear hq0
        simp (maxSteps := 400000) only [go_sem, ↓upXAbsY, ↓upXAbsZa, ↓upXOffC, hT, t1, t2, t3, u1, u2, u3, c5, c6, c7, hCells, updH_same, hd, hg]
        refine ⟨by omega, by omega, inK_of (by decide) (by decide), by omega, 1, by decide, by decide, rfl, ?_⟩
        exact HpLe.upd (HpLe.upd (hpLe_up hf fun q hq => by repeat rw [updH_ne (by rintro rfl; simp at hq <;> omega)]) ⟨_, by simp [updH], ObjLe.refl _⟩) ⟨_, updH_same _ _ _, objLe_cells (by simp [hCells, hgE])⟩
      · have hd : decide ((0 : Int) < (n : Int)) = false := decide_eq_false (by omega)
        have hgE : gE n get 0 = 0 := if_neg hlt
        rw [← hq0]
        clear hq0
        simp (maxSteps := 400000) only [go_sem, ↓upXAbsY, ↓upXAbsZa, ↓upXOffC, hT, t1, t2, t3, u1, u2, u3, c5, c6, c7, hCells, updH_same, hd]
        refine ⟨by omega, inK_of (by decide) (by decide), by omega, 1, by decide, by decide, rfl, ?_⟩
        exact HpLe.upd (HpLe.upd (hpLe_up hf fun q hq => by repeat rw [updH_ne (by rintro rfl; simp at hq <;> omega)]) ⟨_, by simp [updH], ObjLe.refl _⟩) ⟨_, updH_same _ _ _, objLe_cells (by simp [hCells, hgE])⟩
    · by_cases hlt : 1 < n
      · have hd : decide ((1 : Int) < (n : Int)) = true := decide_eq_true (by omega)
        have hg := hget 1 hlt
        have hgE : gE n get 1 = intAt get 1 := if_pos hlt
        rw [← hq0]
        clear hq0
        simp (maxSteps := 400000) only [go_sem, ↓upXAbsY, ↓upXAbsZa, ↓upXOffC, hT, t1, t2, t3, u1, u2, u3, c5, c6, c7, hCells, updH_same, hd, hg]
        refine ⟨by omega, by omega, inK_of (by decide) (by decide), by omega, 2, by decide, by decide, rfl, ?_⟩
        exact HpLe.upd (HpLe.upd (hpLe_up hf fun q hq => by repeat rw [updH_ne (by rintro rfl; simp at hq <;> omega)]) ⟨_, by simp [updH], ObjLe.refl _⟩) ⟨_, updH_same _ _ _, objLe_cells (by simp [hCells, hgE])⟩
      · have hd : decide ((1 : Int) < (n : Int)) = false := decide_eq_false (by omega)
        have hgE : gE n get 1 = 0 := if_neg hlt
        rw [← hq0]
        clear hq0
        simp (maxSteps := 400000) only [go_sem, ↓upXAbsY, ↓upXAbsZa, ↓upXOffC, hT, t1, t2, t3, u1, u2, u3, c5, c6, c7, hCells, updH_same, hd]
        refine ⟨by omega, inK_of (by decide) (by decide), by omega, 2, by decide, by decide, rfl, ?_⟩
        exact HpLe.upd (HpLe.upd (hpLe_up hf fun q hq => by repeat rw [updH_ne (by rintro rfl; simp at hq <;> omega)]) ⟨_, by simp [updH], ObjLe.refl _⟩) ⟨_, updH_same _ _ _, objLe_cells (by simp [hCells, hgE])⟩
    · by_cases hlt : 2 < n
      · have hd : decide ((2 : Int) < (n : Int)) = true := decide_eq_true (by omega)
        have hg := hget 2 hlt
        have hgE : gE n get 2 = intAt get 2 := if_pos hlt
        rw [← hq0]
        clear hq0
        simp (maxSteps := 400000) only [go_sem, ↓upXAbsY, ↓upXAbsZa, ↓upXOffC, hT, t1, t2, t3, u1, u2, u3, c5, c6, c7, hCells, updH_same, hd, hg]
        refine ⟨by omega, by omega, inK_of (by decide) (by decide), by omega, 3, by decide, by decide, rfl, ?_⟩
        exact HpLe.upd (HpLe.upd (hpLe_up hf fun q hq => by repeat rw [updH_ne (by rintro rfl; simp at hq <;> omega)]) ⟨_, by simp [updH], ObjLe.refl _⟩) ⟨_, updH_same _ _ _, objLe_cells (by simp [hCells, hgE])⟩
      · have hd : decide ((2 : Int) < (n : Int)) = false := decide_eq_false (by omega)
        have hgE : gE n get 2 = 0 := if_neg hlt
        rw [← hq0]
        clear hq0
        simp (maxSteps := 400000) only [go_sem, ↓upXAbsY, ↓upXAbsZa, ↓upXOffC, hT, t1, t2, t3, u1, u2, u3, c5, c6, c7, hCells, updH_same, hd]
        refine ⟨by omega, inK_of (by decide) (by decide), by omega, 3, by decide, by decide, rfl, ?_⟩
        exact HpLe.upd (HpLe.upd (hpLe_up hf fun q hq => by repeat rw [updH_ne (by rintro rfl; simp at hq <;> omega)]) ⟨_, by simp [updH], ObjLe.refl _⟩) ⟨_, updH_same _ _ _, objLe_cells (by simp [hCells, hgE])⟩
    · by_cases hlt : 3 < n
      · have hd : decide ((3 : Int) < (n : Int)) = true := decide_eq_true (by omega)
        have hg := hget 3 hlt
        have hgE : gE n get 3 = intAt get 3 := if_pos hlt
        rw [← hq0]
        clear hq0
        simp (maxSteps := 400000) only [go_sem, ↓upXAbsY, ↓upXAbsZa, ↓upXOffC, hT, t1, t2, t3, u1, u2, u3, c5, c6, c7, hCells, updH_same, hd, hg]
        refine ⟨by omega, by omega, inK_of (by decide) (by decide), by omega, 4, by decide, by decide, rfl, ?_⟩
        exact HpLe.upd (HpLe.upd (hpLe_up hf fun q hq => by repeat rw [updH_ne (by rintro rfl; simp at hq <;> omega)]) ⟨_, by simp [updH], ObjLe.refl _⟩) ⟨_, updH_same _ _ _, objLe_cells (by simp [hCells, hgE])⟩
      · have hd : decide ((3 : Int) < (n : Int)) = false := decide_eq_false (by omega)
        have hgE : gE n get 3 = 0 := if_neg hlt
        rw [← hq0]
        clear hq0
        simp (maxSteps := 400000) only [go_sem, ↓upXAbsY, ↓upXAbsZa, ↓upXOffC, hT, t1, t2, t3, u1, u2, u3, c5, c6, c7, hCells, updH_same, hd]
        refine ⟨by omega, inK_of (by decide) (by decide), by omega, 4, by decide, by decide, rfl, ?_⟩
        exact HpLe.upd (HpLe.upd (hpLe_up hf fun q hq => by repeat rw [updH_ne (by rintro rfl; simp at hq <;> omega)]) ⟨_, by simp [updH], ObjLe.refl _⟩) ⟨_, updH_same _ _ _, objLe_cells (by simp [hCells, hgE])⟩
    · by_cases hlt : 4 < n
      · have hd : decide ((4 : Int) < (n : Int)) = true := decide_eq_true (by omega)
        have hg := hget 4 hlt
        have hgE : gE n get 4 = intAt get 4 := if_pos hlt
        rw [← hq0]
        clear hq0
        simp (maxSteps := 400000) only [go_sem, ↓upXAbsY, ↓upXAbsZa, ↓upXOffC, hT, t1, t2, t3, u1, u2, u3, c5, c6, c7, hCells, updH_same, hd, hg]
        refine ⟨by omega, by omega, inK_of (by decide) (by decide), by omega, 5, by decide, by decide, rfl, ?_⟩
        exact HpLe.upd (HpLe.upd (hpLe_up hf fun q hq => by repeat rw [updH_ne (by rintro rfl; simp at hq <;> omega)]) ⟨_, by simp [updH], ObjLe.refl _⟩) ⟨_, updH_same _ _ _, objLe_cells (by simp [hCells, hgE])⟩
      · have hd : decide ((4 : Int) < (n : Int)) = false := decide_eq_false (by omega)
        have hgE : gE n get 4 = 0 := if_neg hlt
        rw [← hq0]
        clear hq0
        simp (maxSteps := 400000) only [go_sem, ↓upXAbsY, ↓upXAbsZa, ↓upXOffC, hT, t1, t2, t3, u1, u2, u3, c5, c6, c7, hCells, updH_same, hd]
        refine ⟨by omega, inK_of (by decide) (by decide), by omega, 5, by decide, by decide, rfl, ?_⟩
        exact HpLe.upd (HpLe.upd (hpLe_up hf fun q hq => by repeat rw [updH_ne (by rintro rfl; simp at hq <;> omega)]) ⟨_, by simp [updH], ObjLe.refl _⟩) ⟨_, updH_same _ _ _, objLe_cells (by simp [hCells, hgE])⟩
    · by_cases hlt : 5 < n
      · have hd : decide ((5 : Int) < (n : Int)) = true := decide_eq_true (by omega)
        have hg := hget 5 hlt
        have hgE : gE n get 5 = intAt get 5 := if_pos hlt
        rw [← hq0]
        clear hq0
        simp (maxSteps := 400000) only [go_sem, ↓upXAbsY, ↓upXAbsZa, ↓upXOffC, hT, t1, t2, t3, u1, u2, u3, c5, c6, c7, hCells, updH_same, hd, hg]
        refine ⟨by omega, by omega, inK_of (by decide) (by decide), by omega, 6, by decide, by decide, rfl, ?_⟩
        exact HpLe.upd (HpLe.upd (hpLe_up hf fun q hq => by repeat rw [updH_ne (by rintro rfl; simp at hq <;> omega)]) ⟨_, by simp [updH], ObjLe.refl _⟩) ⟨_, updH_same _ _ _, objLe_cells (by simp [hCells, hgE])⟩
      · have hd : decide ((5 : Int) < (n : Int)) = false := decide_eq_false (by omega)
        have hgE : gE n get 5 = 0 := if_neg hlt
        rw [← hq0]
        clear hq0
        simp (maxSteps := 400000) only [go_sem, ↓upXAbsY, ↓upXAbsZa, ↓upXOffC, hT, t1, t2, t3, u1, u2, u3, c5, c6, c7, hCells, updH_same, hd]
        refine ⟨by omega, inK_of (by decide) (by decide), by omega, 6, by decide, by decide, rfl, ?_⟩
        exact HpLe.upd (HpLe.upd (hpLe_up hf fun q hq => by repeat rw [updH_ne (by rintro rfl; simp at hq <;> omega)]) ⟨_, by simp [updH], ObjLe.refl _⟩) ⟨_, updH_same _ _ _, objLe_cells (by simp [hCells, hgE])⟩
    · by_cases hlt : 6 < n
      · have hd : decide ((6 : Int) < (n : Int)) = true := decide_eq_true (by omega)
        have hg := hget 6 hlt
        have hgE : gE n get 6 = intAt get 6 := if_pos hlt
        rw [← hq0]
        clear hq0
        simp (maxSteps := 400000) only [go_sem, ↓upXAbsY, ↓upXAbsZa, ↓upXOffC, hT, t1, t2, t3, u1, u2, u3, c5, c6, c7, hCells, updH_same, hd, hg]
        refine ⟨by omega, by omega, inK_of (by decide) (by decide), by omega, 7, by decide, by decide, rfl, ?_⟩
        exact HpLe.upd (HpLe.upd (hpLe_up hf fun q hq => by repeat rw [updH_ne (by rintro rfl; simp at hq <;> omega)]) ⟨_, by simp [updH], ObjLe.refl _⟩) ⟨_, updH_same _ _ _, objLe_cells (by simp [hCells, hgE])⟩
      · have hd : decide ((6 : Int) < (n : Int)) = false := decide_eq_false (by omega)
        have hgE : gE n get 6 = 0 := if_neg hlt
        rw [← hq0]
        clear hq0
        simp (maxSteps := 400000) only [go_sem, ↓upXAbsY, ↓upXAbsZa, ↓upXOffC, hT, t1, t2, t3, u1, u2, u3, c5, c6, c7, hCells, updH_same, hd]
        refine ⟨by omega, inK_of (by decide) (by decide), by omega, 7, by decide, by decide, rfl, ?_⟩
        exact HpLe.upd (HpLe.upd (hpLe_up hf fun q hq => by repeat rw [updH_ne (by rintro rfl; simp at hq <;> omega)]) ⟨_, by simp [updH], ObjLe.refl _⟩) ⟨_, updH_same _ _ _, objLe_cells (by simp [hCells, hgE])⟩
    · by_cases hlt : 7 < n
      · have hd : decide ((7 : Int) < (n : Int)) = true := decide_eq_true (by omega)
        have hg := hget 7 hlt
        have hgE : gE n get 7 = intAt get 7 := if_pos hlt
        rw [← hq0]
        clear hq0
        simp (maxSteps := 400000) only [go_sem, ↓upXAbsY, ↓upXAbsZa, ↓upXOffC, hT, t1, t2, t3, u1, u2, u3, c5, c6, c7, hCells, updH_same, hd, hg]
        refine ⟨by omega, by omega, inK_of (by decide) (by decide), by omega, 8, by decide, by decide, rfl, ?_⟩
        exact HpLe.upd (HpLe.upd (hpLe_up hf fun q hq => by repeat rw [updH_ne (by rintro rfl; simp at hq <;> omega)]) ⟨_, by simp [updH], ObjLe.refl _⟩) ⟨_, updH_same _ _ _, objLe_cells (by simp [hCells, hgE])⟩
      · have hd : decide ((7 : Int) < (n : Int)) = false := decide_eq_false (by omega)
        have hgE : gE n get 7 = 0 := if_neg hlt
        rw [← hq0]
        clear hq0
        simp (maxSteps := 400000) only [go_sem, ↓upXAbsY, ↓upXAbsZa, ↓upXOffC, hT, t1, t2, t3, u1, u2, u3, c5, c6, c7, hCells, updH_same, hd]
        refine ⟨by omega, inK_of (by decide) (by decide), by omega, 8, by decide, by decide, rfl, ?_⟩
        exact HpLe.upd (HpLe.upd (hpLe_up hf fun q hq => by repeat rw [updH_ne (by rintro rfl; simp at hq <;> omega)]) ⟨_, by simp [updH], ObjLe.refl _⟩) ⟨_, updH_same _ _ _, objLe_cells (by simp [hCells, hgE])⟩
    · have g1 := fun d => hf (c + 1, d) (by show ck < c + 1; omega)
      have g2 := fun d => hf (c + 1 + 1, d) (by show ck < c + 1 + 1; omega)
      rw [← hq0]
      clear hq0
      simp (maxSteps := 400000) only [go_sem, ↓upXAbsY, ↓upXAbsZa, ↓upXOffC, hCells, updH_same, g1, g2]
      trace_state
      refine ⟨homeV s (gE n get), VEnt.agg ⟨VEnt.refl _, VEnt.refl _, VEnt.sl fun i hi => (by obtain rfl : i = 0 := (by omega); rfl), trivial⟩, H, hpLe_up hf (fun q hq => ?_), hKn _ (by omega)⟩
      repeat rw [updH_ne (by rintro rfl; simp at hq <;> omega)]
end Go.Fly.Tryz
end
section
/- The law on the number of a house. -/
set_option maxRecDepth 100000
set_option maxHeartbeats 1000000
namespace Go.Fly.Tryz
open Go Off

theorem tNum_ok : Holds Proofs.Tryz.prog G0 4 numLC := by
  refine Holds.of_exC D4 Proofs.Tryz.func4 rfl foll (by kernel_rfl) (tab [(7, eNumberC), (10, text1C), (11, ownEC), (15, jouC), (16, chainQC), (17, numberQC), (18, eHouseC), (19, outdoorC), (20, levelsC), (21, checkQC), (22, eligibleHC), (23, eligQC), (24, publQC), (25, zoneOfC), (iceKey 3, iceC), (iceKey 65, iceC), (iceKey 129, iceC), (iceKey 191, iceC), (inlKey 281, iceC), (inlKey 296, iceC), (ownKey 66, iceC), (ownKey 130, iceC), (ownKey 273, iceC), (ownKey 277, iceC), (ownKey 291, iceC), (ownKey 295, iceC)]) (tab_ok ⟨eNumber_ok, qText_ok, eOwnF_ok, eJou_ok, oChainQ_ok, oNumQ_ok, eHouse_ok, hOutdoor_ok, hLevels_ok, oCheckQ_ok, hEligible_ok, oEligQ_ok, oPublQ_ok, hZoneOf_ok, ice_holds, ice_holds, ice_holds, ice_holds, ice_holds, ice_holds, ice_holds, ice_holds, ice_holds, ice_holds, ice_holds, ice_holds, trivial⟩) G0_ok fun k0 rl args hpu hpre => ?_
  unfold numLC at hpre ⊢
  obtain ⟨n, get, x, a, b0, c0, rfl, hok, ha, hb, hc⟩ := hpre
  have hpu := hok.pu
  by_cases c8 : 1 ≤ n ∧ n ≤ 8
  · have d1 : decide ((n : Int) < 1) = false := decide_eq_false (by omega)
    have d8 : decide ((8 : Int) < (n : Int)) = false := decide_eq_false (by omega)
    obtain ⟨es, hlen, hel, hnok⟩ : ∃ es : List Int, es.length = n ∧ (∀ i, i < n → el es i = (x i).tmod 100000001) ∧ NumOk es (a.tmod 1001) := ⟨esOf n x, esOf_len n x, fun i hi => esOf_at hi, esOf_ok hok c8.2 ha⟩
    subst hlen
    obtain ⟨share, hshare⟩ : ∃ share, share = a.tmod 1001 := ⟨_, rfl⟩
    rw [← hshare] at hnok
    simp only [Proofs.Tryz.f4]
    rw [enter_mkT (Nat.le_of_ble_eq_true rfl)]
    simp (maxSteps := 4000000) only [go_sem, ↓upXAbsY, ↓upXAbsZa, ↓upXOffC, ↓callT_hide, ↓extT_hide, d1, d8, hpu]
    refine RestT.ents (Ents.nilArr (d := 5) (l := (5, 1000)) 1 (fun j => [.int .i64 (el es j)]) rfl rfl rfl) ?_
    simp (maxSteps := 400000) only [go_sem, ↓upXAbsY, ↓upXAbsZa, ↓upXOffC]
    refine RestT.loopG (β := Nat) [(5, 5), (7, 7), (57, 67)] (fun i => [(5, .msl (5, 1000) 0 i), (57, .int .i64 i)]) (fun i => updH (fun _ => none) (5, 1000) (.arr i 1 fun j => [.int .i64 (el es j)])) (fun c i => i ≤ es.length) (fun i => es.length - i) 0 (Nat.zero_le _) ?_ (HpLe.refl _) ?_
    · simp (maxSteps := 400000) only [go_sem, ↓upXAbsY, ↓upXAbsZa, ↓upXOffC]
      try exact ⟨rfl, rfl⟩
    intro ck i hck hle
    have hle : i ≤ es.length := hle
    generalize hq0 : exC _ _ _ _ _ = gg
    by_cases hi : i < es.length
    · have hd : decide ((i : Int) < (es.length : Int)) = true := decide_eq_true (by omega)
      obtain ⟨hrow, hx0, hx1⟩ := hok.row i hi
      have he := hel i hi
      rw [← hq0]
      clear hq0
      simp (maxSteps := 400000) only [go_sem, ↓upXAbsY, ↓upXAbsZa, ↓upXOffC, ↓callT_hide, ↓extT_hide, hd, hpu, hrow, w3264, if_true, Nat.zero_add]
      exact ⟨⟨by omega, by omega⟩, inK_of (by omega) (by omega), ⟨by omega, by omega, row_ok0 rfl (ones_cons (.int _ _) rfl ones_nil)⟩, inK_of (by omega) (by omega), by omega, i + 1, hi, by omega, ⟨rfl, rfl⟩, hpLe_low (ck := 4) (fun q _ => rfl) (fun q hq => by repeat rw [updH_ne (by rintro rfl; simp at hq <;> omega)]) (o := .arr (i + 1) 1 fun j => if j < i then [.int .i64 (el es j)] else rowAt [.int .i64 ((x i).tmod 100000001)] 1 (0 + (j - i))) (by simp [updH]) ⟨rfl, rfl, fun j hj => snoc (f := fun j => [.int .i64 (el es j)]) rfl (by rw [he]) hj⟩⟩
    · have hd : decide ((i : Int) < (es.length : Int)) = false := decide_eq_false (by omega)
      obtain rfl : i = es.length := by omega
      rw [← hq0]
      clear hq0
      simp (maxSteps := 400000) only [go_sem, ↓upXAbsY, ↓upXAbsZa, ↓upXOffC, ↓callT_hide, ↓extT_hide, hd, hpu]
      refine ⟨_, Ents.kill (d := 5) (l := (5, 1000)) (n := es.length) (get := fun j => [.int .i64 (el es j)]) (sz := 1) rfl rfl (fun i j v hi hv => by
        have := List.mem_of_getElem? hv
        rw [List.mem_singleton.1 this]; exact .int _ _), ?_⟩
      have hevb := jou_evb hnok
      have hjl : (jou es share).length ≤ 1000 := by rw [jou_len]; omega
      have hjl6 : (jou es share).length ≤ 1000000 := by omega
      have hpuJ := pu_evs (jou es share)
      have hch : chainE (jou es share) [97] = (chainN es share, 0) := jou_chain hnok
      have hcr := chain_rows es share
      have hpuC := pu_itsN es.length (chainN es share)
      obtain ⟨N, hN⟩ : ∃ N, N = sumN' es share := ⟨_, rfl⟩
      have hnum : numE (jou es share) [97] = (N, levelE N, 0) := by rw [hN]; exact jou_num hnok
      have hdn : decide ((es.length : Int) = (es.length : Int)) = true := decide_eq_true rfl
      have hmod : (a.tmod 1001 : Int) = share := hshare.symm
      have hpuE := pu_intsE es
      have hpuE2 : Pu (.sl es.length 1 fun i => [.int .i64 (el es i)]) ↔ True := hpuE
      simp (maxSteps := 400000) only [go_sem, ↓upXAbsY, ↓upXAbsZa, ↓upXOffC, ↓callT_hide, ↓extT_hide, w1664, if_true, hmod, hpu, hpuE, hpuE2, hpuJ, hch, hcr, hpuC, hnum, hdn]
      refine ⟨inK_of (by omega) (by omega), ⟨es, share, rfl, hnok⟩, ⟨_, rfl, hjl, hevb⟩, ⟨_, _, rfl, hjl6, hevb⟩, ⟨_, rfl, hjl, hevb⟩, ⟨_, _, rfl, hjl6, hevb⟩, ?_⟩
      have k5 : ¬ ck + 1 + 1 + 1 + 1 + 1 + 1 + 1 + 1 = 5 := by omega
      refine RestT.ents (Ents.nilArr (d := 15) (l := (ck + 1 + 1 + 1 + 1 + 1 + 1 + 1 + 1, 1000)) 1 (fun j => [.int .i64 (el (thL es share) j)]) rfl (by simp [updH, k5]) rfl) ?_
      simp (maxSteps := 400000) only [go_sem, ↓upXAbsY, ↓upXAbsZa, ↓upXOffC]
      generalize hL : (ck + 1 + 1 + 1 + 1 + 1 + 1 + 1 + 1, 1000) = L
      have hL1 : 5 < L.1 := by rw [← hL]; show 5 < ck + 1 + 1 + 1 + 1 + 1 + 1 + 1 + 1; omega
      have hL2 : L.1 ≤ ck + 1 + 1 + 1 + 1 + 1 + 1 + 1 + 1 := by rw [← hL]; exact Nat.le_refl _
      refine RestT.loopG (β := Nat) [(4, 4), (15, 17), (103, 131)] (fun i => [(15, .msl L 0 i), (103, .int .i64 i)]) (fun i => updH (fun _ => none) L (.arr i 1 fun j => [.int .i64 (el (thL es share) j)])) (fun c i => i ≤ es.length) (fun i => es.length - i) 0 (Nat.zero_le _) ?_ (HpLe.upd HpLe.none ⟨_, updH_same _ _ _, ObjLe.refl _⟩) ?_
      · simp (maxSteps := 400000) only [go_sem, ↓upXAbsY, ↓upXAbsZa, ↓upXOffC]
        try exact ⟨rfl, rfl⟩
      intro c i hck2 hle
      have hle : i ≤ es.length := hle
      generalize hq0 : exC _ _ _ _ _ = gg
      by_cases hi : i < es.length
      · have hd : decide ((i : Int) < (es.length : Int)) = true := decide_eq_true (by omega)
        have hrow := chain_at (share := share) hi
        have hth := thL_at (share := share) hi
        have hthd : (el es i * share).tdiv 1000 = thE es share i := rfl
        have q1 : ∀ d, ¬ L = (c + 1, d) := fun d => by rintro rfl; simp at hL2; omega
        have r1 : ∀ d, ¬ (c + 1, d) = L := fun d h => q1 d h.symm
        have q2 : ∀ d, ¬ L = (c + 1 + 1, d) := fun d => by rintro rfl; simp at hL2; omega
        have r2 : ∀ d, ¬ (c + 1 + 1, d) = L := fun d h => q2 d h.symm
        have q3 : ∀ d, ¬ L = (c + 1 + 1 + 1, d) := fun d => by rintro rfl; simp at hL2; omega
        have r3 : ∀ d, ¬ (c + 1 + 1 + 1, d) = L := fun d h => q3 d h.symm
        have q4 : ∀ d, ¬ L = (c + 1 + 1 + 1 + 1, d) := fun d => by rintro rfl; simp at hL2; omega
        have r4 : ∀ d, ¬ (c + 1 + 1 + 1 + 1, d) = L := fun d h => q4 d h.symm
        have q5 : ∀ d, ¬ L = (c + 1 + 1 + 1 + 1 + 1, d) := fun d => by rintro rfl; simp at hL2; omega
        have r5 : ∀ d, ¬ (c + 1 + 1 + 1 + 1 + 1, d) = L := fun d h => q5 d h.symm
        have q6 : ∀ d, ¬ L = (c + 1 + 1 + 1 + 1 + 1 + 1, d) := fun d => by rintro rfl; simp at hL2; omega
        have r6 : ∀ d, ¬ (c + 1 + 1 + 1 + 1 + 1 + 1, d) = L := fun d h => q6 d h.symm
        have q7 : ∀ d, ¬ L = (c + 1 + 1 + 1 + 1 + 1 + 1 + 1, d) := fun d => by rintro rfl; simp at hL2; omega
        have r7 : ∀ d, ¬ (c + 1 + 1 + 1 + 1 + 1 + 1 + 1, d) = L := fun d h => q7 d h.symm
        rw [← hq0]
        clear hq0
        simp (maxSteps := 400000) only [go_sem, ↓upXAbsY, ↓upXAbsZa, ↓upXOffC, ↓callT_hide, ↓extT_hide, hd, hpuC, hpuE2, hrow, hthd, if_true, Nat.zero_add, q1, q2, q3, q4, q5, q6, q7, r1, r2, r3, r4, r5, r6, r7]
        have hbe := hnok.bd _ (el_mem hi)
        have hbt := thE_bd hnok hi
        have hm0 : 0 ≤ el es i * share := Int.mul_nonneg hbe.1 hnok.share.1
        have hm1 : el es i * share ≤ 100000000 * 1000 := Int.le_trans (Int.mul_le_mul hbe.2 hnok.share.2 hnok.share.1 (by decide)) (by decide)
        refine ⟨⟨by omega, by omega⟩, ⟨_, rfl, by omega, by omega⟩, by rw [dig_len]; decide, ⟨by omega, by omega⟩, inK_of (by omega) (by omega), inK_of (by omega) (by omega), ⟨by omega, by omega, row_ok0 rfl (ones_cons (.int _ _) rfl ones_nil)⟩, inK_of (by omega) (by omega), by omega, i + 1, hi, by omega, ⟨rfl, rfl⟩, hpLe_one (ck := L.1) (fun q _ => rfl) (fun q hq hne => ?_) ⟨.arr (i + 1) 1 fun j => if j < i then [.int .i64 (el (thL es share) j)] else rowAt [.int .i64 (thE es share i)] 1 (0 + (j - i)), by simp [updH, q1, q2, q3, q4, q5, q6, q7, r1, r2, r3, r4, r5, r6, r7], rfl, rfl, fun j hj => snoc (f := fun j => [.int .i64 (el (thL es share) j)]) rfl (by rw [hth]) hj⟩⟩
        repeat rw [updH_ne (by first | exact hne | (rintro rfl; simp at hq <;> omega))]
      · have hd : decide ((i : Int) < (es.length : Int)) = false := decide_eq_false (by omega)
        obtain rfl : i = es.length := by omega
        rw [← hq0]
        clear hq0
        simp (maxSteps := 400000) only [go_sem, ↓upXAbsY, ↓upXAbsZa, ↓upXOffC, ↓callT_hide, ↓extT_hide, hd, hpuC]
        refine ⟨_, Ents.trans (Ents.kill (d := 15) (l := L) (n := es.length) (get := fun j => [.int .i64 (el (thL es share) j)]) (sz := 1) rfl (if_pos rfl) (fun i j v hi hv => by
          have := List.mem_of_getElem? hv
          rw [List.mem_singleton.1 this]; exact .int _ _)) (Ents.go (tmLe_refl _) HpLe.none), ?_⟩
        have hpuT2 : Pu (.sl es.length 1 fun i => [.int .i64 (el (thL es share) i)]) ↔ True := iff_true_intro (pu_sl.2 fun i hi v hv => by rw [List.mem_singleton.1 hv]; exact .int _ _)
        have hin := intsF (thL es share) (n := es.length) (by omega)
        have hFs : sN (gE es.length fun j => [V.int .i64 (el (thL es share) j)]) 8 = sumN' es share := by rw [gE_sum (l := thL es share) (thL_len es share).symm (by omega) (fun i hi => rfl), thL_sum]
        have hFo : OutOk (gE es.length fun j => [V.int .i64 (el (thL es share) j)]) := gE_out (l := thL es share) (thL_len es share).symm (fun i hi => rfl) (thL_bd hnok)
        obtain ⟨F, hF⟩ : ∃ F, F = gE es.length fun j => [V.int .i64 (el (thL es share) j)] := ⟨_, rfl⟩
        rw [← hF] at hFs hFo
        have hF := hF.symm
        have hchk : chkChE (jou es share) [97] (chainN es share) (levelE (sumN' es share)) = ((es.length : Int), 0) := jou_check hnok
        have hpb : publE (jou es share) [109] [97] = (levelE (sumN' es share), 0) := jou_publ hnok
        have heli := jou_elig hnok
        rw [← hN] at hFs hchk hpb heli
        have hdc : decRows decIt (.sl es.length 2 fun i => encIt (el (chainN es share) i)) = chainN es share := by rw [← hcr]; exact dec_its _
        have hE0 : encStrs [] = .sl 0 1 fun i => [.str (el [] i)] := rfl
        have hE1 : encStrs [[97]] = .sl 1 1 fun i => [.str (el [[97]] i)] := rfl
        have hel0 : el [([97] : Str)] 0 = [97] := rfl
        have z0 : ((0 : Nat) : Int) = 0 := rfl
        have z1 : ((1 : Nat) : Int) = 1 := rfl
        have hN0 : 0 ≤ N ∧ N ≤ 800000000 := by have := sN_bd hFo (Nat.le_refl 8); omega
        obtain ⟨Z, hZ⟩ : ∃ Z, Z = 61 + c0.tmod 30 := ⟨_, rfl⟩
        have hZb : 61 ≤ Z ∧ Z ≤ 90 := by have := tmod_bd (a := c0) (b := 30) hc.1 (by decide); omega
        obtain ⟨k, hk, hkl⟩ : ∃ k : Nat, b0.tmod (es.length : Int) = (k : Int) ∧ k < es.length := ⟨(b0.tmod (es.length : Int)).toNat, by have := tmod_bd (a := b0) (b := (es.length : Int)) hb.1 (by omega); omega, by have := tmod_bd (a := b0) (b := (es.length : Int)) hb.1 (by omega); omega⟩
        have hkn : ((k : Nat) : Int).toNat = k := rfl
        have hkk : (es.length : Int) - (k : Int) = ((es.length - k : Nat) : Int) := by omega
        have h3 : ((!true) = false ∧ znE Z (levelE N) = -1 ∧ (!true) = false ∧ eligE (jou es share) = ([], 0)) ∨ (decide (Z ≤ levelE N) = false ∧ znE Z (levelE N) = 0 ∧ decide (0 < N) = true ∧ eligE (jou es share) = ([[97]], 0)) ∨ (decide (Z ≤ levelE N) = true ∧ znE Z (levelE N) = 1 ∧ decide (0 < N) = true ∧ eligE (jou es share) = ([[97]], 0)) := by
          by_cases q1 : 60 ≤ levelE N
          · rw [if_pos q1] at heli
            by_cases q2 : levelE N < Z
            · exact .inr (.inl ⟨decide_eq_false (by omega), by unfold znE; rw [if_neg (by omega), if_pos q2], decide_eq_true (level_pos q1), heli⟩)
            · exact .inr (.inr ⟨decide_eq_true (by omega), by unfold znE; rw [if_neg (by omega), if_neg q2], decide_eq_true (level_pos q1), heli⟩)
          · rw [if_neg q1] at heli
            exact .inl ⟨rfl, by unfold znE; rw [if_pos (by omega)], rfl, heli⟩
        have hmodZ : (61 + c0.tmod 30 : Int) = Z := hZ.symm
        have hzA : znA (.sl 2 4 (rowAt [.str [108, 111, 119], .int .i64 60, .int .i64 50, .int .i64 0, .str [104, 105, 103, 104], .int .i64 Z, .int .i64 80, .int .i64 0] 4)) = Z := rfl
        have nt : (!true) = false := rfl
        have nf : (!false) = true := rfl
        have bt : (true == true) = true := rfl
        have bf : (false == false) = true := rfl
        obtain ⟨es2, hes2⟩ : ∃ es2, es2 = es.drop k ++ es.take k := ⟨_, rfl⟩
        have hl2 : es2.length = es.length := by rw [hes2, List.length_append, List.length_drop, List.length_take]; omega
        have hnok2 : NumOk es2 share := by rw [hes2]; exact numOk_turn hnok k
        have hnum2 : numE (jou es2 share) [97] = (N, levelE N, 0) := by
          have e : sumN' es2 share = N := by rw [hes2, sumN_turn, hN]
          rw [← e]; exact jou_num hnok2
        have hpuJ2 := pu_evs (jou es2 share)
        have hjl2 : (jou es2 share).length ≤ 1000000 := by rw [jou_len]; omega
        have hevb2 := jou_evb hnok2
        obtain ⟨th2, hth2⟩ : ∃ th2, th2 = thL es2 share := ⟨_, rfl⟩
        have htl2 : th2.length = es.length := by rw [hth2, thL_len, hl2]
        have hth3 : th2 = (thL es share).drop k ++ (thL es share).take k := by rw [hth2, hes2, thL_turn]
        have pOwn : ∃ l, [encRows 5 encEv (jou es share)] = [encRows 5 encEv l] ∧ l.length ≤ 1000 ∧ ∀ (e : Ev), e ∈ l → EvB e := ⟨_, rfl, hjl, hevb⟩
        have pOwn6 : ∃ l, [encRows 5 encEv (jou es share)] = [encRows 5 encEv l] ∧ l.length ≤ 1000000 ∧ ∀ (e : Ev), e ∈ l → EvB e := ⟨_, rfl, hjl6, hevb⟩
        have pHm : ∃ s f, [V.agg [.str [97], .int .i64 0, .sl 1 25 fun x => hmRow F]] = [V.agg [.str s, .int .i64 0, .sl 1 25 fun x => hmRow f]] ∧ nameB s = true ∧ OutOk f := ⟨_, F, rfl, by decide, hFo⟩
        have tat : ∀ {i : Nat}, i < es.length - k + k → (if i < es.length - k then [V.int .i64 (el es (k + i))] else [V.int .i64 (el es (i - (es.length - k)))]) = [.int .i64 (el es2 i)] := fun {i} hi => by
          rw [hes2, turn_at es (by omega) (by omega)]
          split <;> rfl
        have tatT : ∀ {i : Nat}, i < es.length - k + k → (if i < es.length - k then [V.int .i64 (el (thL es share) (k + i))] else [V.int .i64 (el (thL es share) (i - (es.length - k)))]) = [.int .i64 (el th2 i)] := fun {i} hi => by
          have hlt := thL_len es share
          rw [hth3, turn_at (thL es share) (by omega) (by omega), hlt]
          split <;> rfl
        obtain ⟨F2, hF2⟩ : ∃ F2, F2 = gE (es.length - k + k) (fun i => if i < es.length - k then [V.int .i64 (el (thL es share) (k + i))] else [V.int .i64 (el (thL es share) (i - (es.length - k)))]) := ⟨_, rfl⟩
        have hFs2 : sN F2 8 = N := by rw [hF2, gE_sum (l := th2) (by omega) (by omega) (fun i hi => tatT hi), hth2, thL_sum, hes2, sumN_turn, hN]
        have hFo2 : OutOk F2 := by rw [hF2]; exact gE_out (l := th2) (by omega) (fun i hi => tatT hi) (by rw [hth2]; exact thL_bd hnok2)
        have hin2 : IsInts (es.length - k + k) (fun i => if i < es.length - k then [V.int .i64 (el (thL es share) (k + i))] else [V.int .i64 (el (thL es share) (i - (es.length - k)))]) := isInts_of (l := th2) (by omega) fun i hi => tatT hi
        have jouV : encRows 5 encEv (jou (decInts (encInts es2)) share) = encRows 5 encEv (jou es2 share) := by rw [dec_ints]
        rcases h3 with ⟨g1, g2, g2b, g3⟩ | ⟨g1, g2, g2b, g3⟩ | ⟨g1, g2, g2b, g3⟩
        all_goals
          simp (maxSteps := 400000) only [go_sem, ↓upXAbsY, ↓upXAbsZa, ↓upXOffC, ↓callT_hide, ↓extT_hide, w1664, if_true, hmod, hpu, hpuE, hpuE2, hpuJ, hcr, hpuC, hnum, hdn, hpuT2, hF, homeV, hFs, hchk, hpb, g1, g3, g2, g2b, hmodZ, hch, hdc, hE0, hE1, hel0, z0, z1, hzA, nt, nf, bt, bf, hk, hkn, hkk, Bool.false_and, Bool.true_and, Nat.zero_add, Nat.not_lt_zero, if_false, Nat.sub_zero]
          refine ⟨⟨_, _, _, rfl, hin⟩, pHm, pHm, pOwn, ⟨by omega, by omega, fun i _ v hv => ones_it _ v hv⟩, ⟨jou es share, [97], chainN es share, levelE N, by rw [hcr], hjl6, hevb, by rw [chainN_len]; omega⟩, inK_of (by omega) (by omega), inK_of (by omega) (by omega), fun i _ v hv => ones_zn Z v (List.mem_of_mem_drop (List.mem_of_mem_take hv)), ⟨⟨_, F, _, Z, rfl, zn_lit hZb, hFo, by decide⟩, .inl (pu_zn Z)⟩, pOwn, pOwn6, pOwn, ⟨_, _, _, rfl, hjl6, hevb⟩, ⟨⟨_, Z, N, rfl, zn_lit hZb, by omega, by omega⟩, .inl (pu_zn Z)⟩, ?_⟩
          refine ⟨inK_of (by omega) (by omega), by omega, ⟨by omega, by omega, by omega⟩, ⟨by omega, by omega⟩, ⟨by omega, by omega⟩, ⟨by omega, by omega⟩, .inl fun hX2 => callH_clean (HpLe.refl _) (tmLe_refl _) (callT_kill0 (updH_same _ _ _) (fun i j v hi hv => tpu (G := fun m => .int .i64 (el es m)) (fun m => .int _ _) hv) (vent_intsN (l := es2) (by omega) (fun i hi => tat hi)) (callT_pure hX2 (C := jouC) (v := encRows 5 encEv (jou es2 share)) rfl (fun a ha => ?_) (fun rl => ⟨es2, share, rfl, hnok2⟩) (fun _ => rfl) (fun rl => jouV) (hpuJ2.2 trivial) ?_))⟩
          · simp only [List.mem_cons, List.not_mem_nil, or_false] at ha
            rcases ha with rfl | rfl
            · exact (pu_intsE _).2 trivial
            · exact .int _ _
          simp (maxSteps := 400000) only [go_sem, ↓upXAbsY, ↓upXAbsZa, ↓upXOffC, ↓callT_hide, ↓extT_hide, if_true, hpuJ2, hnum2, hpuT2, hk, hkn, hkk, Nat.zero_add, Nat.not_lt_zero, if_false, Nat.sub_zero]
          refine ⟨⟨_, _, rfl, hjl2, hevb2⟩, ⟨by omega, by omega, by omega⟩, ⟨by omega, by omega⟩, ⟨by omega, by omega⟩, ⟨by omega, by omega⟩, ?_⟩
          refine RdQ.of (homeV [97] F2) rfl rfl rfl en18 (.inl ((pu_home _ _).2 trivial)) (fun hX3 => eHouseM_call hX3 (updH_same _ _ _) hin2 (Nat.le_refl _) (fun q hq => ?_) fun ck' _ => ⟨by rw [hF2], rfl⟩) ?_
          · show updH _ _ _ q = none
            repeat rw [updH_ne (by rintro rfl; simp at hq <;> omega)]
          simp (maxSteps := 400000) only [go_sem, ↓upXAbsY, ↓upXAbsZa, ↓upXOffC, ↓callT_hide, ↓extT_hide, if_true, homeV, hFs2, hdn]
          exact ⟨⟨_, F2, rfl, by decide, hFo2⟩, VEnt.refl _⟩
  · have d1 : (decide ((n : Int) < 1) || decide ((8 : Int) < (n : Int))) = true := by simp; omega
    by_cases q : n < 1
    · have d1 : decide ((n : Int) < 1) = true := decide_eq_true (by omega)
      simp only [Proofs.Tryz.f4]
      rw [enter_mkT (Nat.le_of_ble_eq_true rfl)]
      simp (maxSteps := 4000000) only [go_sem, ↓upXAbsY, ↓upXAbsZa, ↓upXOffC, ↓callT_hide, ↓extT_hide, d1, hpu]
      exact VEnt.refl _
    · have d1 : decide ((n : Int) < 1) = false := decide_eq_false (by omega)
      have d8 : decide ((8 : Int) < (n : Int)) = true := decide_eq_true (by omega)
      simp only [Proofs.Tryz.f4]
      rw [enter_mkT (Nat.le_of_ble_eq_true rfl)]
      simp (maxSteps := 4000000) only [go_sem, ↓upXAbsY, ↓upXAbsZa, ↓upXOffC, ↓callT_hide, ↓extT_hide, d1, d8, hpu]
      exact VEnt.refl _
end Go.Fly.Tryz
end
