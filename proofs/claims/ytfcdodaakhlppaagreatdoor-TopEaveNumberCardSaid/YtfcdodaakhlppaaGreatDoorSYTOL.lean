/- The office: an event is put into a register. -/
import Derived.Test.YtfcdodaakhlppaaGreatDoorSYTOG
import Derived.Test.YtfcdodaakhlppaaGreatDoorSYTOH
import Derived.Test.YtfcdodaakhlppaaGreatDoorSYTOJ
import Derived.Test.YtfcdodaakhlppaaGreatDoorSYTOK
import Derived.Test.YtfcdodaakhlppaaGreatDoorAQ
set_option linter.unusedSimpArgs false
set_option linter.unusedVariables false
set_option maxRecDepth 100000
set_option maxHeartbeats 1000000
namespace Go.Fly.Tryz
open Go Off

theorem ap1_call {Γ : FuncId → Option Contract} {r0 : Option Nat} {k0 : K} {H : Heap} {ck : Nat} {Kn : V → Heap → Nat → Prop} (hX : (⟨Proofs.Tryz.prog, Γ, G0, r0, k0⟩ : Cx).Ok) {y : Lay} {r : Reg} {e : Ev} (hat : RegAt H y r) (hy : LayOk y ck) (hf : ∀ l : Loc, ck < l.1 → H l = none)
    (hk : kindOf e.kind = some .type) (hp : AppPre r e .type) (hKn : ∀ ck', ck ≤ ck' → Kn (.tup []) (putReg H y (applyE levelE r e)) ck') :
    CallT ⟨Proofs.Tryz.prog, Γ, G0, r0, k0⟩ H ck 156 [.ptr y.box y.off, .agg (encEv e)] Kn := by
  have hvl := hp.vals
  have hnm := hp.names
  have hr := hp.reg.rl
  have hv0 : 0 < e.vals.length := by rw [hvl]; decide
  have hyo := hy
  have hato := hat
  rw [applyE_of hk] at hKn
  have hbx2 : ∀ r', putReg H y r' y.box = some (.cells (y.pre ++ regCells y r')) := fun r' => (putReg_at hy r').box
  have hdy : ∀ r' cs, cs = y.pre ++ regCells y { r' with day := el e.vals 0 } → updH (putReg H y r') y.box (.cells cs) = putReg H y { r' with day := el e.vals 0 } := fun r' cs h => put_day h
  obtain ⟨box, pre, n0, n1, n2, n3, n4, n5⟩ := y
  rcases hy.pre with q | ⟨u1, u2, q⟩
  · have q : pre = [] := q
    subst q
    show CallT _ H ck 156 [.ptr box 0, .agg (encEv e)] Kn
    refine CallT.less (CallT.inline hX Proofs.Tryz.func156 rfl foll (D := D156) (by kernel_rfl) (tab [(96, formsC chkF appF), (iceKey 3, iceC), (inlKey 11, iceC)]) (tab_ok ⟨oForms_ok, ice_holds, ice_holds, trivial⟩) fun k1 => ?_)
    simp only [Proofs.Tryz.f156]
    rw [app_mkT (Nat.le_of_ble_eq_true rfl)]
    simp (maxSteps := 400000) only [go_sem, ↓upXAbsY, ↓upXAbsZa, ↓upXOffC, encEv, encStrs, encInts, hk, appF]
    refine .inl fun hX2 => ?_
    refine fa1_call hX2 hato (hyo.mono (ck' := ck + 1 + 1 + 1) (by omega)) (fun l hl => hf l (by have : ck + 1 + 1 + 1 < l.1 := hl; omega)) hr hvl hnm fun ck2 hck2 => ?_
    have hb := hbx2 (applyK levelE r e .type)
    simp only [regCells, List.cons_append, List.nil_append] at hb
    simp (maxSteps := 400000) only [go_sem, ↓upXAbsY, ↓upXAbsZa, ↓upXOffC, encEv, encStrs, encInts, hb]
    exact ⟨by omega, _, hpLe_of_eq (hdy (applyK levelE r e .type) _ rfl), hKn _ (by omega)⟩
  · have q : pre = [u1, u2] := q
    subst q
    show CallT _ H ck 156 [.ptr box 2, .agg (encEv e)] Kn
    refine CallT.less (CallT.inline hX Proofs.Tryz.func156 rfl foll (D := D156) (by kernel_rfl) (tab [(96, formsC chkF appF), (iceKey 3, iceC), (inlKey 11, iceC)]) (tab_ok ⟨oForms_ok, ice_holds, ice_holds, trivial⟩) fun k1 => ?_)
    simp only [Proofs.Tryz.f156]
    rw [app_mkT (Nat.le_of_ble_eq_true rfl)]
    simp (maxSteps := 400000) only [go_sem, ↓upXAbsY, ↓upXAbsZa, ↓upXOffC, encEv, encStrs, encInts, hk, appF]
    refine .inl fun hX2 => ?_
    refine fa1_call hX2 hato (hyo.mono (ck' := ck + 1 + 1 + 1) (by omega)) (fun l hl => hf l (by have : ck + 1 + 1 + 1 < l.1 := hl; omega)) hr hvl hnm fun ck2 hck2 => ?_
    have hb := hbx2 (applyK levelE r e .type)
    simp only [regCells, List.cons_append, List.nil_append] at hb
    simp (maxSteps := 400000) only [go_sem, ↓upXAbsY, ↓upXAbsZa, ↓upXOffC, encEv, encStrs, encInts, hb]
    exact ⟨by omega, _, hpLe_of_eq (hdy (applyK levelE r e .type) _ rfl), hKn _ (by omega)⟩

theorem ap2_call {Γ : FuncId → Option Contract} {r0 : Option Nat} {k0 : K} {H : Heap} {ck : Nat} {Kn : V → Heap → Nat → Prop} (hX : (⟨Proofs.Tryz.prog, Γ, G0, r0, k0⟩ : Cx).Ok) {y : Lay} {r : Reg} {e : Ev} (hat : RegAt H y r) (hy : LayOk y ck) (hf : ∀ l : Loc, ck < l.1 → H l = none)
    (hk : kindOf e.kind = some .house) (hp : AppPre r e .house) (hKn : ∀ ck', ck ≤ ck' → Kn (.tup []) (putReg H y (applyE levelE r e)) ck') :
    CallT ⟨Proofs.Tryz.prog, Γ, G0, r0, k0⟩ H ck 156 [.ptr y.box y.off, .agg (encEv e)] Kn := by
  have hvl := hp.vals
  have hnm := hp.names
  have hr := hp.reg.rl
  have hv0 : 0 < e.vals.length := by rw [hvl]; decide
  have hyo := hy
  have hato := hat
  rw [applyE_of hk] at hKn
  have hbx2 : ∀ r', putReg H y r' y.box = some (.cells (y.pre ++ regCells y r')) := fun r' => (putReg_at hy r').box
  have hdy : ∀ r' cs, cs = y.pre ++ regCells y { r' with day := el e.vals 0 } → updH (putReg H y r') y.box (.cells cs) = putReg H y { r' with day := el e.vals 0 } := fun r' cs h => put_day h
  obtain ⟨box, pre, n0, n1, n2, n3, n4, n5⟩ := y
  rcases hy.pre with q | ⟨u1, u2, q⟩
  · have q : pre = [] := q
    subst q
    show CallT _ H ck 156 [.ptr box 0, .agg (encEv e)] Kn
    refine CallT.less (CallT.inline hX Proofs.Tryz.func156 rfl foll (D := D156) (by kernel_rfl) (tab [(96, formsC chkF appF), (iceKey 3, iceC), (inlKey 11, iceC)]) (tab_ok ⟨oForms_ok, ice_holds, ice_holds, trivial⟩) fun k1 => ?_)
    simp only [Proofs.Tryz.f156]
    rw [app_mkT (Nat.le_of_ble_eq_true rfl)]
    simp (maxSteps := 400000) only [go_sem, ↓upXAbsY, ↓upXAbsZa, ↓upXOffC, encEv, encStrs, encInts, hk, appF]
    refine .inl fun hX2 => ?_
    refine fa2_call hX2 hato (hyo.mono (ck' := ck + 1 + 1 + 1) (by omega)) (fun l hl => hf l (by have : ck + 1 + 1 + 1 < l.1 := hl; omega)) hr hvl hnm fun ck2 hck2 => ?_
    have hb := hbx2 (applyK levelE r e .house)
    simp only [regCells, List.cons_append, List.nil_append] at hb
    simp (maxSteps := 400000) only [go_sem, ↓upXAbsY, ↓upXAbsZa, ↓upXOffC, encEv, encStrs, encInts, hb]
    exact ⟨by omega, _, hpLe_of_eq (hdy (applyK levelE r e .house) _ rfl), hKn _ (by omega)⟩
  · have q : pre = [u1, u2] := q
    subst q
    show CallT _ H ck 156 [.ptr box 2, .agg (encEv e)] Kn
    refine CallT.less (CallT.inline hX Proofs.Tryz.func156 rfl foll (D := D156) (by kernel_rfl) (tab [(96, formsC chkF appF), (iceKey 3, iceC), (inlKey 11, iceC)]) (tab_ok ⟨oForms_ok, ice_holds, ice_holds, trivial⟩) fun k1 => ?_)
    simp only [Proofs.Tryz.f156]
    rw [app_mkT (Nat.le_of_ble_eq_true rfl)]
    simp (maxSteps := 400000) only [go_sem, ↓upXAbsY, ↓upXAbsZa, ↓upXOffC, encEv, encStrs, encInts, hk, appF]
    refine .inl fun hX2 => ?_
    refine fa2_call hX2 hato (hyo.mono (ck' := ck + 1 + 1 + 1) (by omega)) (fun l hl => hf l (by have : ck + 1 + 1 + 1 < l.1 := hl; omega)) hr hvl hnm fun ck2 hck2 => ?_
    have hb := hbx2 (applyK levelE r e .house)
    simp only [regCells, List.cons_append, List.nil_append] at hb
    simp (maxSteps := 400000) only [go_sem, ↓upXAbsY, ↓upXAbsZa, ↓upXOffC, encEv, encStrs, encInts, hb]
    exact ⟨by omega, _, hpLe_of_eq (hdy (applyK levelE r e .house) _ rfl), hKn _ (by omega)⟩

theorem ap3_call {Γ : FuncId → Option Contract} {r0 : Option Nat} {k0 : K} {H : Heap} {ck : Nat} {Kn : V → Heap → Nat → Prop} (hX : (⟨Proofs.Tryz.prog, Γ, G0, r0, k0⟩ : Cx).Ok) {y : Lay} {r : Reg} {e : Ev} (hat : RegAt H y r) (hy : LayOk y ck) (hf : ∀ l : Loc, ck < l.1 → H l = none)
    (hk : kindOf e.kind = some .flight) (hp : AppPre r e .flight) (hKn : ∀ ck', ck ≤ ck' → Kn (.tup []) (putReg H y (applyE levelE r e)) ck') :
    CallT ⟨Proofs.Tryz.prog, Γ, G0, r0, k0⟩ H ck 156 [.ptr y.box y.off, .agg (encEv e)] Kn := by
  have hvl := hp.vals
  have hnm := hp.names
  have hr := hp.reg.rl
  have hv0 : 0 < e.vals.length := by rw [hvl]; decide
  have hyo := hy
  have hato := hat
  rw [applyE_of hk] at hKn
  have hbx2 : ∀ r', putReg H y r' y.box = some (.cells (y.pre ++ regCells y r')) := fun r' => (putReg_at hy r').box
  have hdy : ∀ r' cs, cs = y.pre ++ regCells y { r' with day := el e.vals 0 } → updH (putReg H y r') y.box (.cells cs) = putReg H y { r' with day := el e.vals 0 } := fun r' cs h => put_day h
  obtain ⟨box, pre, n0, n1, n2, n3, n4, n5⟩ := y
  rcases hy.pre with q | ⟨u1, u2, q⟩
  · have q : pre = [] := q
    subst q
    show CallT _ H ck 156 [.ptr box 0, .agg (encEv e)] Kn
    refine CallT.less (CallT.inline hX Proofs.Tryz.func156 rfl foll (D := D156) (by kernel_rfl) (tab [(96, formsC chkF appF), (iceKey 3, iceC), (inlKey 11, iceC)]) (tab_ok ⟨oForms_ok, ice_holds, ice_holds, trivial⟩) fun k1 => ?_)
    simp only [Proofs.Tryz.f156]
    rw [app_mkT (Nat.le_of_ble_eq_true rfl)]
    simp (maxSteps := 400000) only [go_sem, ↓upXAbsY, ↓upXAbsZa, ↓upXOffC, encEv, encStrs, encInts, hk, appF]
    refine .inl fun hX2 => ?_
    refine fa3_call hX2 hato (hyo.mono (ck' := ck + 1 + 1 + 1) (by omega)) (fun l hl => hf l (by have : ck + 1 + 1 + 1 < l.1 := hl; omega)) hr hvl hnm fun ck2 hck2 => ?_
    have hb := hbx2 (applyK levelE r e .flight)
    simp only [regCells, List.cons_append, List.nil_append] at hb
    simp (maxSteps := 400000) only [go_sem, ↓upXAbsY, ↓upXAbsZa, ↓upXOffC, encEv, encStrs, encInts, hb]
    exact ⟨by omega, _, hpLe_of_eq (hdy (applyK levelE r e .flight) _ rfl), hKn _ (by omega)⟩
  · have q : pre = [u1, u2] := q
    subst q
    show CallT _ H ck 156 [.ptr box 2, .agg (encEv e)] Kn
    refine CallT.less (CallT.inline hX Proofs.Tryz.func156 rfl foll (D := D156) (by kernel_rfl) (tab [(96, formsC chkF appF), (iceKey 3, iceC), (inlKey 11, iceC)]) (tab_ok ⟨oForms_ok, ice_holds, ice_holds, trivial⟩) fun k1 => ?_)
    simp only [Proofs.Tryz.f156]
    rw [app_mkT (Nat.le_of_ble_eq_true rfl)]
    simp (maxSteps := 400000) only [go_sem, ↓upXAbsY, ↓upXAbsZa, ↓upXOffC, encEv, encStrs, encInts, hk, appF]
    refine .inl fun hX2 => ?_
    refine fa3_call hX2 hato (hyo.mono (ck' := ck + 1 + 1 + 1) (by omega)) (fun l hl => hf l (by have : ck + 1 + 1 + 1 < l.1 := hl; omega)) hr hvl hnm fun ck2 hck2 => ?_
    have hb := hbx2 (applyK levelE r e .flight)
    simp only [regCells, List.cons_append, List.nil_append] at hb
    simp (maxSteps := 400000) only [go_sem, ↓upXAbsY, ↓upXAbsZa, ↓upXOffC, encEv, encStrs, encInts, hb]
    exact ⟨by omega, _, hpLe_of_eq (hdy (applyK levelE r e .flight) _ rfl), hKn _ (by omega)⟩

theorem ap4_call {Γ : FuncId → Option Contract} {r0 : Option Nat} {k0 : K} {H : Heap} {ck : Nat} {Kn : V → Heap → Nat → Prop} (hX : (⟨Proofs.Tryz.prog, Γ, G0, r0, k0⟩ : Cx).Ok) {y : Lay} {r : Reg} {e : Ev} (hat : RegAt H y r) (hy : LayOk y ck) (hf : ∀ l : Loc, ck < l.1 → H l = none)
    (hk : kindOf e.kind = some .match_) (hp : AppPre r e .match_) (hKn : ∀ ck', ck ≤ ck' → Kn (.tup []) (putReg H y (applyE levelE r e)) ck') :
    CallT ⟨Proofs.Tryz.prog, Γ, G0, r0, k0⟩ H ck 156 [.ptr y.box y.off, .agg (encEv e)] Kn := by
  have hvl := hp.vals
  have hnm := hp.names
  have hr := hp.reg.rl
  have hv0 : 0 < e.vals.length := by rw [hvl]; decide
  have hyo := hy
  have hato := hat
  rw [applyE_of hk] at hKn
  have hbx2 : ∀ r', putReg H y r' y.box = some (.cells (y.pre ++ regCells y r')) := fun r' => (putReg_at hy r').box
  have hdy : ∀ r' cs, cs = y.pre ++ regCells y { r' with day := el e.vals 0 } → updH (putReg H y r') y.box (.cells cs) = putReg H y { r' with day := el e.vals 0 } := fun r' cs h => put_day h
  obtain ⟨box, pre, n0, n1, n2, n3, n4, n5⟩ := y
  rcases hy.pre with q | ⟨u1, u2, q⟩
  · have q : pre = [] := q
    subst q
    show CallT _ H ck 156 [.ptr box 0, .agg (encEv e)] Kn
    refine CallT.less (CallT.inline hX Proofs.Tryz.func156 rfl foll (D := D156) (by kernel_rfl) (tab [(96, formsC chkF appF), (iceKey 3, iceC), (inlKey 11, iceC)]) (tab_ok ⟨oForms_ok, ice_holds, ice_holds, trivial⟩) fun k1 => ?_)
    simp only [Proofs.Tryz.f156]
    rw [app_mkT (Nat.le_of_ble_eq_true rfl)]
    simp (maxSteps := 400000) only [go_sem, ↓upXAbsY, ↓upXAbsZa, ↓upXOffC, encEv, encStrs, encInts, hk, appF]
    refine .inl fun hX2 => ?_
    refine fa4_call hX2 hato (hyo.mono (ck' := ck + 1 + 1 + 1) (by omega)) (fun l hl => hf l (by have : ck + 1 + 1 + 1 < l.1 := hl; omega)) hr hvl hnm (there_of (i := 0) hp.known (by decide) (by decide)) fun ck2 hck2 => ?_
    have hb := hbx2 (applyK levelE r e .match_)
    simp only [regCells, List.cons_append, List.nil_append] at hb
    simp (maxSteps := 400000) only [go_sem, ↓upXAbsY, ↓upXAbsZa, ↓upXOffC, encEv, encStrs, encInts, hb]
    exact ⟨by omega, _, hpLe_of_eq (hdy (applyK levelE r e .match_) _ rfl), hKn _ (by omega)⟩
  · have q : pre = [u1, u2] := q
    subst q
    show CallT _ H ck 156 [.ptr box 2, .agg (encEv e)] Kn
    refine CallT.less (CallT.inline hX Proofs.Tryz.func156 rfl foll (D := D156) (by kernel_rfl) (tab [(96, formsC chkF appF), (iceKey 3, iceC), (inlKey 11, iceC)]) (tab_ok ⟨oForms_ok, ice_holds, ice_holds, trivial⟩) fun k1 => ?_)
    simp only [Proofs.Tryz.f156]
    rw [app_mkT (Nat.le_of_ble_eq_true rfl)]
    simp (maxSteps := 400000) only [go_sem, ↓upXAbsY, ↓upXAbsZa, ↓upXOffC, encEv, encStrs, encInts, hk, appF]
    refine .inl fun hX2 => ?_
    refine fa4_call hX2 hato (hyo.mono (ck' := ck + 1 + 1 + 1) (by omega)) (fun l hl => hf l (by have : ck + 1 + 1 + 1 < l.1 := hl; omega)) hr hvl hnm (there_of (i := 0) hp.known (by decide) (by decide)) fun ck2 hck2 => ?_
    have hb := hbx2 (applyK levelE r e .match_)
    simp only [regCells, List.cons_append, List.nil_append] at hb
    simp (maxSteps := 400000) only [go_sem, ↓upXAbsY, ↓upXAbsZa, ↓upXOffC, encEv, encStrs, encInts, hb]
    exact ⟨by omega, _, hpLe_of_eq (hdy (applyK levelE r e .match_) _ rfl), hKn _ (by omega)⟩

theorem ap5_call {Γ : FuncId → Option Contract} {r0 : Option Nat} {k0 : K} {H : Heap} {ck : Nat} {Kn : V → Heap → Nat → Prop} (hX : (⟨Proofs.Tryz.prog, Γ, G0, r0, k0⟩ : Cx).Ok) {y : Lay} {r : Reg} {e : Ev} (hat : RegAt H y r) (hy : LayOk y ck) (hf : ∀ l : Loc, ck < l.1 → H l = none)
    (hk : kindOf e.kind = some .correct) (hp : AppPre r e .correct) (hKn : ∀ ck', ck ≤ ck' → Kn (.tup []) (putReg H y (applyE levelE r e)) ck') :
    CallT ⟨Proofs.Tryz.prog, Γ, G0, r0, k0⟩ H ck 156 [.ptr y.box y.off, .agg (encEv e)] Kn := by
  have hvl := hp.vals
  have hnm := hp.names
  have hr := hp.reg.rl
  have hv0 : 0 < e.vals.length := by rw [hvl]; decide
  have hyo := hy
  have hato := hat
  rw [applyE_of hk] at hKn
  have hbx2 : ∀ r', putReg H y r' y.box = some (.cells (y.pre ++ regCells y r')) := fun r' => (putReg_at hy r').box
  have hdy : ∀ r' cs, cs = y.pre ++ regCells y { r' with day := el e.vals 0 } → updH (putReg H y r') y.box (.cells cs) = putReg H y { r' with day := el e.vals 0 } := fun r' cs h => put_day h
  obtain ⟨box, pre, n0, n1, n2, n3, n4, n5⟩ := y
  rcases hy.pre with q | ⟨u1, u2, q⟩
  · have q : pre = [] := q
    subst q
    show CallT _ H ck 156 [.ptr box 0, .agg (encEv e)] Kn
    refine CallT.less (CallT.inline hX Proofs.Tryz.func156 rfl foll (D := D156) (by kernel_rfl) (tab [(96, formsC chkF appF), (iceKey 3, iceC), (inlKey 11, iceC)]) (tab_ok ⟨oForms_ok, ice_holds, ice_holds, trivial⟩) fun k1 => ?_)
    simp only [Proofs.Tryz.f156]
    rw [app_mkT (Nat.le_of_ble_eq_true rfl)]
    simp (maxSteps := 400000) only [go_sem, ↓upXAbsY, ↓upXAbsZa, ↓upXOffC, encEv, encStrs, encInts, hk, appF]
    refine .inl fun hX2 => ?_
    refine fa5_call hX2 hato (hyo.mono (ck' := ck + 1 + 1 + 1) (by omega)) (fun l hl => hf l (by have : ck + 1 + 1 + 1 < l.1 := hl; omega)) hr hvl hnm (there_of (i := 0) hp.known (by decide) (by decide)) fun ck2 hck2 => ?_
    have hb := hbx2 (applyK levelE r e .correct)
    simp only [regCells, List.cons_append, List.nil_append] at hb
    simp (maxSteps := 400000) only [go_sem, ↓upXAbsY, ↓upXAbsZa, ↓upXOffC, encEv, encStrs, encInts, hb]
    exact ⟨by omega, _, hpLe_of_eq (hdy (applyK levelE r e .correct) _ rfl), hKn _ (by omega)⟩
  · have q : pre = [u1, u2] := q
    subst q
    show CallT _ H ck 156 [.ptr box 2, .agg (encEv e)] Kn
    refine CallT.less (CallT.inline hX Proofs.Tryz.func156 rfl foll (D := D156) (by kernel_rfl) (tab [(96, formsC chkF appF), (iceKey 3, iceC), (inlKey 11, iceC)]) (tab_ok ⟨oForms_ok, ice_holds, ice_holds, trivial⟩) fun k1 => ?_)
    simp only [Proofs.Tryz.f156]
    rw [app_mkT (Nat.le_of_ble_eq_true rfl)]
    simp (maxSteps := 400000) only [go_sem, ↓upXAbsY, ↓upXAbsZa, ↓upXOffC, encEv, encStrs, encInts, hk, appF]
    refine .inl fun hX2 => ?_
    refine fa5_call hX2 hato (hyo.mono (ck' := ck + 1 + 1 + 1) (by omega)) (fun l hl => hf l (by have : ck + 1 + 1 + 1 < l.1 := hl; omega)) hr hvl hnm (there_of (i := 0) hp.known (by decide) (by decide)) fun ck2 hck2 => ?_
    have hb := hbx2 (applyK levelE r e .correct)
    simp only [regCells, List.cons_append, List.nil_append] at hb
    simp (maxSteps := 400000) only [go_sem, ↓upXAbsY, ↓upXAbsZa, ↓upXOffC, encEv, encStrs, encInts, hb]
    exact ⟨by omega, _, hpLe_of_eq (hdy (applyK levelE r e .correct) _ rfl), hKn _ (by omega)⟩

theorem ap6_call {Γ : FuncId → Option Contract} {r0 : Option Nat} {k0 : K} {H : Heap} {ck : Nat} {Kn : V → Heap → Nat → Prop} (hX : (⟨Proofs.Tryz.prog, Γ, G0, r0, k0⟩ : Cx).Ok) {y : Lay} {r : Reg} {e : Ev} (hat : RegAt H y r) (hy : LayOk y ck) (hf : ∀ l : Loc, ck < l.1 → H l = none)
    (hk : kindOf e.kind = some .publish) (hp : AppPre r e .publish) (hKn : ∀ ck', ck ≤ ck' → Kn (.tup []) (putReg H y (applyE levelE r e)) ck') :
    CallT ⟨Proofs.Tryz.prog, Γ, G0, r0, k0⟩ H ck 156 [.ptr y.box y.off, .agg (encEv e)] Kn := by
  have hvl := hp.vals
  have hnm := hp.names
  have hr := hp.reg.rl
  have hv0 : 0 < e.vals.length := by rw [hvl]; decide
  have hyo := hy
  have hato := hat
  rw [applyE_of hk] at hKn
  have hbx2 : ∀ r', putReg H y r' y.box = some (.cells (y.pre ++ regCells y r')) := fun r' => (putReg_at hy r').box
  have hdy : ∀ r' cs, cs = y.pre ++ regCells y { r' with day := el e.vals 0 } → updH (putReg H y r') y.box (.cells cs) = putReg H y { r' with day := el e.vals 0 } := fun r' cs h => put_day h
  obtain ⟨box, pre, n0, n1, n2, n3, n4, n5⟩ := y
  rcases hy.pre with q | ⟨u1, u2, q⟩
  · have q : pre = [] := q
    subst q
    show CallT _ H ck 156 [.ptr box 0, .agg (encEv e)] Kn
    refine CallT.less (CallT.inline hX Proofs.Tryz.func156 rfl foll (D := D156) (by kernel_rfl) (tab [(96, formsC chkF appF), (iceKey 3, iceC), (inlKey 11, iceC)]) (tab_ok ⟨oForms_ok, ice_holds, ice_holds, trivial⟩) fun k1 => ?_)
    simp only [Proofs.Tryz.f156]
    rw [app_mkT (Nat.le_of_ble_eq_true rfl)]
    simp (maxSteps := 400000) only [go_sem, ↓upXAbsY, ↓upXAbsZa, ↓upXOffC, encEv, encStrs, encInts, hk, appF]
    refine .inl fun hX2 => ?_
    refine fa6_call hX2 hato (hyo.mono (ck' := ck + 1 + 1 + 1) (by omega)) (fun l hl => hf l (by have : ck + 1 + 1 + 1 < l.1 := hl; omega)) hr hvl hnm hp.reg.chain fun ck2 hck2 => ?_
    have hb := hbx2 (applyK levelE r e .publish)
    simp only [regCells, List.cons_append, List.nil_append] at hb
    simp (maxSteps := 400000) only [go_sem, ↓upXAbsY, ↓upXAbsZa, ↓upXOffC, encEv, encStrs, encInts, hb]
    exact ⟨by omega, _, hpLe_of_eq (hdy (applyK levelE r e .publish) _ rfl), hKn _ (by omega)⟩
  · have q : pre = [u1, u2] := q
    subst q
    show CallT _ H ck 156 [.ptr box 2, .agg (encEv e)] Kn
    refine CallT.less (CallT.inline hX Proofs.Tryz.func156 rfl foll (D := D156) (by kernel_rfl) (tab [(96, formsC chkF appF), (iceKey 3, iceC), (inlKey 11, iceC)]) (tab_ok ⟨oForms_ok, ice_holds, ice_holds, trivial⟩) fun k1 => ?_)
    simp only [Proofs.Tryz.f156]
    rw [app_mkT (Nat.le_of_ble_eq_true rfl)]
    simp (maxSteps := 400000) only [go_sem, ↓upXAbsY, ↓upXAbsZa, ↓upXOffC, encEv, encStrs, encInts, hk, appF]
    refine .inl fun hX2 => ?_
    refine fa6_call hX2 hato (hyo.mono (ck' := ck + 1 + 1 + 1) (by omega)) (fun l hl => hf l (by have : ck + 1 + 1 + 1 < l.1 := hl; omega)) hr hvl hnm hp.reg.chain fun ck2 hck2 => ?_
    have hb := hbx2 (applyK levelE r e .publish)
    simp only [regCells, List.cons_append, List.nil_append] at hb
    simp (maxSteps := 400000) only [go_sem, ↓upXAbsY, ↓upXAbsZa, ↓upXOffC, encEv, encStrs, encInts, hb]
    exact ⟨by omega, _, hpLe_of_eq (hdy (applyK levelE r e .publish) _ rfl), hKn _ (by omega)⟩

theorem ap7_call {Γ : FuncId → Option Contract} {r0 : Option Nat} {k0 : K} {H : Heap} {ck : Nat} {Kn : V → Heap → Nat → Prop} (hX : (⟨Proofs.Tryz.prog, Γ, G0, r0, k0⟩ : Cx).Ok) {y : Lay} {r : Reg} {e : Ev} (hat : RegAt H y r) (hy : LayOk y ck) (hf : ∀ l : Loc, ck < l.1 → H l = none)
    (hk : kindOf e.kind = some .offer) (hp : AppPre r e .offer) (hKn : ∀ ck', ck ≤ ck' → Kn (.tup []) (putReg H y (applyE levelE r e)) ck') :
    CallT ⟨Proofs.Tryz.prog, Γ, G0, r0, k0⟩ H ck 156 [.ptr y.box y.off, .agg (encEv e)] Kn := by
  have hvl := hp.vals
  have hnm := hp.names
  have hr := hp.reg.rl
  have hv0 : 0 < e.vals.length := by rw [hvl]; decide
  have hyo := hy
  have hato := hat
  rw [applyE_of hk] at hKn
  have hbx2 : ∀ r', putReg H y r' y.box = some (.cells (y.pre ++ regCells y r')) := fun r' => (putReg_at hy r').box
  have hdy : ∀ r' cs, cs = y.pre ++ regCells y { r' with day := el e.vals 0 } → updH (putReg H y r') y.box (.cells cs) = putReg H y { r' with day := el e.vals 0 } := fun r' cs h => put_day h
  obtain ⟨box, pre, n0, n1, n2, n3, n4, n5⟩ := y
  rcases hy.pre with q | ⟨u1, u2, q⟩
  · have q : pre = [] := q
    subst q
    show CallT _ H ck 156 [.ptr box 0, .agg (encEv e)] Kn
    refine CallT.less (CallT.inline hX Proofs.Tryz.func156 rfl foll (D := D156) (by kernel_rfl) (tab [(96, formsC chkF appF), (iceKey 3, iceC), (inlKey 11, iceC)]) (tab_ok ⟨oForms_ok, ice_holds, ice_holds, trivial⟩) fun k1 => ?_)
    simp only [Proofs.Tryz.f156]
    rw [app_mkT (Nat.le_of_ble_eq_true rfl)]
    simp (maxSteps := 400000) only [go_sem, ↓upXAbsY, ↓upXAbsZa, ↓upXOffC, encEv, encStrs, encInts, hk, appF]
    refine .inl fun hX2 => ?_
    refine fa7_call hX2 hato (hyo.mono (ck' := ck + 1 + 1 + 1) (by omega)) (fun l hl => hf l (by have : ck + 1 + 1 + 1 < l.1 := hl; omega)) hr hvl hnm fun ck2 hck2 => ?_
    have hb := hbx2 (applyK levelE r e .offer)
    simp only [regCells, List.cons_append, List.nil_append] at hb
    simp (maxSteps := 400000) only [go_sem, ↓upXAbsY, ↓upXAbsZa, ↓upXOffC, encEv, encStrs, encInts, hb]
    exact ⟨by omega, _, hpLe_of_eq (hdy (applyK levelE r e .offer) _ rfl), hKn _ (by omega)⟩
  · have q : pre = [u1, u2] := q
    subst q
    show CallT _ H ck 156 [.ptr box 2, .agg (encEv e)] Kn
    refine CallT.less (CallT.inline hX Proofs.Tryz.func156 rfl foll (D := D156) (by kernel_rfl) (tab [(96, formsC chkF appF), (iceKey 3, iceC), (inlKey 11, iceC)]) (tab_ok ⟨oForms_ok, ice_holds, ice_holds, trivial⟩) fun k1 => ?_)
    simp only [Proofs.Tryz.f156]
    rw [app_mkT (Nat.le_of_ble_eq_true rfl)]
    simp (maxSteps := 400000) only [go_sem, ↓upXAbsY, ↓upXAbsZa, ↓upXOffC, encEv, encStrs, encInts, hk, appF]
    refine .inl fun hX2 => ?_
    refine fa7_call hX2 hato (hyo.mono (ck' := ck + 1 + 1 + 1) (by omega)) (fun l hl => hf l (by have : ck + 1 + 1 + 1 < l.1 := hl; omega)) hr hvl hnm fun ck2 hck2 => ?_
    have hb := hbx2 (applyK levelE r e .offer)
    simp only [regCells, List.cons_append, List.nil_append] at hb
    simp (maxSteps := 400000) only [go_sem, ↓upXAbsY, ↓upXAbsZa, ↓upXOffC, encEv, encStrs, encInts, hb]
    exact ⟨by omega, _, hpLe_of_eq (hdy (applyK levelE r e .offer) _ rfl), hKn _ (by omega)⟩

theorem ap8_call {Γ : FuncId → Option Contract} {r0 : Option Nat} {k0 : K} {H : Heap} {ck : Nat} {Kn : V → Heap → Nat → Prop} (hX : (⟨Proofs.Tryz.prog, Γ, G0, r0, k0⟩ : Cx).Ok) {y : Lay} {r : Reg} {e : Ev} (hat : RegAt H y r) (hy : LayOk y ck) (hf : ∀ l : Loc, ck < l.1 → H l = none)
    (hk : kindOf e.kind = some .fund) (hp : AppPre r e .fund) (hKn : ∀ ck', ck ≤ ck' → Kn (.tup []) (putReg H y (applyE levelE r e)) ck') :
    CallT ⟨Proofs.Tryz.prog, Γ, G0, r0, k0⟩ H ck 156 [.ptr y.box y.off, .agg (encEv e)] Kn := by
  have hvl := hp.vals
  have hnm := hp.names
  have hr := hp.reg.rl
  have hv0 : 0 < e.vals.length := by rw [hvl]; decide
  have hyo := hy
  have hato := hat
  rw [applyE_of hk] at hKn
  have hbx2 : ∀ r', putReg H y r' y.box = some (.cells (y.pre ++ regCells y r')) := fun r' => (putReg_at hy r').box
  have hdy : ∀ r' cs, cs = y.pre ++ regCells y { r' with day := el e.vals 0 } → updH (putReg H y r') y.box (.cells cs) = putReg H y { r' with day := el e.vals 0 } := fun r' cs h => put_day h
  obtain ⟨box, pre, n0, n1, n2, n3, n4, n5⟩ := y
  rcases hy.pre with q | ⟨u1, u2, q⟩
  · have q : pre = [] := q
    subst q
    show CallT _ H ck 156 [.ptr box 0, .agg (encEv e)] Kn
    refine CallT.less (CallT.inline hX Proofs.Tryz.func156 rfl foll (D := D156) (by kernel_rfl) (tab [(96, formsC chkF appF), (iceKey 3, iceC), (inlKey 11, iceC)]) (tab_ok ⟨oForms_ok, ice_holds, ice_holds, trivial⟩) fun k1 => ?_)
    simp only [Proofs.Tryz.f156]
    rw [app_mkT (Nat.le_of_ble_eq_true rfl)]
    simp (maxSteps := 400000) only [go_sem, ↓upXAbsY, ↓upXAbsZa, ↓upXOffC, encEv, encStrs, encInts, hk, appF]
    refine .inl fun hX2 => ?_
    refine fa8_call hX2 hato (hyo.mono (ck' := ck + 1 + 1 + 1) (by omega)) (fun l hl => hf l (by have : ck + 1 + 1 + 1 < l.1 := hl; omega)) hr hvl (hp.val (i := 1) (by decide)) hp.reg.fund fun ck2 hck2 => ?_
    have hb := hbx2 (applyK levelE r e .fund)
    simp only [regCells, List.cons_append, List.nil_append] at hb
    simp (maxSteps := 400000) only [go_sem, ↓upXAbsY, ↓upXAbsZa, ↓upXOffC, encEv, encStrs, encInts, hb]
    exact ⟨by omega, _, hpLe_of_eq (hdy (applyK levelE r e .fund) _ rfl), hKn _ (by omega)⟩
  · have q : pre = [u1, u2] := q
    subst q
    show CallT _ H ck 156 [.ptr box 2, .agg (encEv e)] Kn
    refine CallT.less (CallT.inline hX Proofs.Tryz.func156 rfl foll (D := D156) (by kernel_rfl) (tab [(96, formsC chkF appF), (iceKey 3, iceC), (inlKey 11, iceC)]) (tab_ok ⟨oForms_ok, ice_holds, ice_holds, trivial⟩) fun k1 => ?_)
    simp only [Proofs.Tryz.f156]
    rw [app_mkT (Nat.le_of_ble_eq_true rfl)]
    simp (maxSteps := 400000) only [go_sem, ↓upXAbsY, ↓upXAbsZa, ↓upXOffC, encEv, encStrs, encInts, hk, appF]
    refine .inl fun hX2 => ?_
    refine fa8_call hX2 hato (hyo.mono (ck' := ck + 1 + 1 + 1) (by omega)) (fun l hl => hf l (by have : ck + 1 + 1 + 1 < l.1 := hl; omega)) hr hvl (hp.val (i := 1) (by decide)) hp.reg.fund fun ck2 hck2 => ?_
    have hb := hbx2 (applyK levelE r e .fund)
    simp only [regCells, List.cons_append, List.nil_append] at hb
    simp (maxSteps := 400000) only [go_sem, ↓upXAbsY, ↓upXAbsZa, ↓upXOffC, encEv, encStrs, encInts, hb]
    exact ⟨by omega, _, hpLe_of_eq (hdy (applyK levelE r e .fund) _ rfl), hKn _ (by omega)⟩

theorem ap9_call {Γ : FuncId → Option Contract} {r0 : Option Nat} {k0 : K} {H : Heap} {ck : Nat} {Kn : V → Heap → Nat → Prop} (hX : (⟨Proofs.Tryz.prog, Γ, G0, r0, k0⟩ : Cx).Ok) {y : Lay} {r : Reg} {e : Ev} (hat : RegAt H y r) (hy : LayOk y ck) (hf : ∀ l : Loc, ck < l.1 → H l = none)
    (hk : kindOf e.kind = some .pay) (hp : AppPre r e .pay) (hKn : ∀ ck', ck ≤ ck' → Kn (.tup []) (putReg H y (applyE levelE r e)) ck') :
    CallT ⟨Proofs.Tryz.prog, Γ, G0, r0, k0⟩ H ck 156 [.ptr y.box y.off, .agg (encEv e)] Kn := by
  have hvl := hp.vals
  have hnm := hp.names
  have hr := hp.reg.rl
  have hv0 : 0 < e.vals.length := by rw [hvl]; decide
  have hyo := hy
  have hato := hat
  rw [applyE_of hk] at hKn
  have hbx2 : ∀ r', putReg H y r' y.box = some (.cells (y.pre ++ regCells y r')) := fun r' => (putReg_at hy r').box
  have hdy : ∀ r' cs, cs = y.pre ++ regCells y { r' with day := el e.vals 0 } → updH (putReg H y r') y.box (.cells cs) = putReg H y { r' with day := el e.vals 0 } := fun r' cs h => put_day h
  obtain ⟨box, pre, n0, n1, n2, n3, n4, n5⟩ := y
  rcases hy.pre with q | ⟨u1, u2, q⟩
  · have q : pre = [] := q
    subst q
    show CallT _ H ck 156 [.ptr box 0, .agg (encEv e)] Kn
    refine CallT.less (CallT.inline hX Proofs.Tryz.func156 rfl foll (D := D156) (by kernel_rfl) (tab [(96, formsC chkF appF), (iceKey 3, iceC), (inlKey 11, iceC)]) (tab_ok ⟨oForms_ok, ice_holds, ice_holds, trivial⟩) fun k1 => ?_)
    simp only [Proofs.Tryz.f156]
    rw [app_mkT (Nat.le_of_ble_eq_true rfl)]
    simp (maxSteps := 400000) only [go_sem, ↓upXAbsY, ↓upXAbsZa, ↓upXOffC, encEv, encStrs, encInts, hk, appF]
    refine .inl fun hX2 => ?_
    refine fa9_call hX2 hato (hyo.mono (ck' := ck + 1 + 1 + 1) (by omega)) (fun l hl => hf l (by have : ck + 1 + 1 + 1 < l.1 := hl; omega)) hr hvl hnm (there_of (i := 0) hp.known (by decide) (by decide)) hp.reg.fund hp.pay fun ck2 hck2 => ?_
    have hb := hbx2 (applyK levelE r e .pay)
    simp only [regCells, List.cons_append, List.nil_append] at hb
    simp (maxSteps := 400000) only [go_sem, ↓upXAbsY, ↓upXAbsZa, ↓upXOffC, encEv, encStrs, encInts, hb]
    exact ⟨by omega, _, hpLe_of_eq (hdy (applyK levelE r e .pay) _ rfl), hKn _ (by omega)⟩
  · have q : pre = [u1, u2] := q
    subst q
    show CallT _ H ck 156 [.ptr box 2, .agg (encEv e)] Kn
    refine CallT.less (CallT.inline hX Proofs.Tryz.func156 rfl foll (D := D156) (by kernel_rfl) (tab [(96, formsC chkF appF), (iceKey 3, iceC), (inlKey 11, iceC)]) (tab_ok ⟨oForms_ok, ice_holds, ice_holds, trivial⟩) fun k1 => ?_)
    simp only [Proofs.Tryz.f156]
    rw [app_mkT (Nat.le_of_ble_eq_true rfl)]
    simp (maxSteps := 400000) only [go_sem, ↓upXAbsY, ↓upXAbsZa, ↓upXOffC, encEv, encStrs, encInts, hk, appF]
    refine .inl fun hX2 => ?_
    refine fa9_call hX2 hato (hyo.mono (ck' := ck + 1 + 1 + 1) (by omega)) (fun l hl => hf l (by have : ck + 1 + 1 + 1 < l.1 := hl; omega)) hr hvl hnm (there_of (i := 0) hp.known (by decide) (by decide)) hp.reg.fund hp.pay fun ck2 hck2 => ?_
    have hb := hbx2 (applyK levelE r e .pay)
    simp only [regCells, List.cons_append, List.nil_append] at hb
    simp (maxSteps := 400000) only [go_sem, ↓upXAbsY, ↓upXAbsZa, ↓upXOffC, encEv, encStrs, encInts, hb]
    exact ⟨by omega, _, hpLe_of_eq (hdy (applyK levelE r e .pay) _ rfl), hKn _ (by omega)⟩

theorem ap10_call {Γ : FuncId → Option Contract} {r0 : Option Nat} {k0 : K} {H : Heap} {ck : Nat} {Kn : V → Heap → Nat → Prop} (hX : (⟨Proofs.Tryz.prog, Γ, G0, r0, k0⟩ : Cx).Ok) {y : Lay} {r : Reg} {e : Ev} (hat : RegAt H y r) (hy : LayOk y ck) (hf : ∀ l : Loc, ck < l.1 → H l = none)
    (hk : kindOf e.kind = some .complain) (hp : AppPre r e .complain) (hKn : ∀ ck', ck ≤ ck' → Kn (.tup []) (putReg H y (applyE levelE r e)) ck') :
    CallT ⟨Proofs.Tryz.prog, Γ, G0, r0, k0⟩ H ck 156 [.ptr y.box y.off, .agg (encEv e)] Kn := by
  have hvl := hp.vals
  have hnm := hp.names
  have hr := hp.reg.rl
  have hv0 : 0 < e.vals.length := by rw [hvl]; decide
  have hyo := hy
  have hato := hat
  rw [applyE_of hk] at hKn
  have hbx2 : ∀ r', putReg H y r' y.box = some (.cells (y.pre ++ regCells y r')) := fun r' => (putReg_at hy r').box
  have hdy : ∀ r' cs, cs = y.pre ++ regCells y { r' with day := el e.vals 0 } → updH (putReg H y r') y.box (.cells cs) = putReg H y { r' with day := el e.vals 0 } := fun r' cs h => put_day h
  obtain ⟨box, pre, n0, n1, n2, n3, n4, n5⟩ := y
  rcases hy.pre with q | ⟨u1, u2, q⟩
  · have q : pre = [] := q
    subst q
    show CallT _ H ck 156 [.ptr box 0, .agg (encEv e)] Kn
    refine CallT.less (CallT.inline hX Proofs.Tryz.func156 rfl foll (D := D156) (by kernel_rfl) (tab [(96, formsC chkF appF), (iceKey 3, iceC), (inlKey 11, iceC)]) (tab_ok ⟨oForms_ok, ice_holds, ice_holds, trivial⟩) fun k1 => ?_)
    simp only [Proofs.Tryz.f156]
    rw [app_mkT (Nat.le_of_ble_eq_true rfl)]
    simp (maxSteps := 400000) only [go_sem, ↓upXAbsY, ↓upXAbsZa, ↓upXOffC, encEv, encStrs, encInts, hk, appF]
    refine .inl fun hX2 => ?_
    refine fa10_call hX2 hato (hyo.mono (ck' := ck + 1 + 1 + 1) (by omega)) (fun l hl => hf l (by have : ck + 1 + 1 + 1 < l.1 := hl; omega)) hr hvl hnm fun ck2 hck2 => ?_
    have hb := hbx2 (applyK levelE r e .complain)
    simp only [regCells, List.cons_append, List.nil_append] at hb
    simp (maxSteps := 400000) only [go_sem, ↓upXAbsY, ↓upXAbsZa, ↓upXOffC, encEv, encStrs, encInts, hb]
    exact ⟨by omega, _, hpLe_of_eq (hdy (applyK levelE r e .complain) _ rfl), hKn _ (by omega)⟩
  · have q : pre = [u1, u2] := q
    subst q
    show CallT _ H ck 156 [.ptr box 2, .agg (encEv e)] Kn
    refine CallT.less (CallT.inline hX Proofs.Tryz.func156 rfl foll (D := D156) (by kernel_rfl) (tab [(96, formsC chkF appF), (iceKey 3, iceC), (inlKey 11, iceC)]) (tab_ok ⟨oForms_ok, ice_holds, ice_holds, trivial⟩) fun k1 => ?_)
    simp only [Proofs.Tryz.f156]
    rw [app_mkT (Nat.le_of_ble_eq_true rfl)]
    simp (maxSteps := 400000) only [go_sem, ↓upXAbsY, ↓upXAbsZa, ↓upXOffC, encEv, encStrs, encInts, hk, appF]
    refine .inl fun hX2 => ?_
    refine fa10_call hX2 hato (hyo.mono (ck' := ck + 1 + 1 + 1) (by omega)) (fun l hl => hf l (by have : ck + 1 + 1 + 1 < l.1 := hl; omega)) hr hvl hnm fun ck2 hck2 => ?_
    have hb := hbx2 (applyK levelE r e .complain)
    simp only [regCells, List.cons_append, List.nil_append] at hb
    simp (maxSteps := 400000) only [go_sem, ↓upXAbsY, ↓upXAbsZa, ↓upXOffC, encEv, encStrs, encInts, hb]
    exact ⟨by omega, _, hpLe_of_eq (hdy (applyK levelE r e .complain) _ rfl), hKn _ (by omega)⟩

theorem ap11_call {Γ : FuncId → Option Contract} {r0 : Option Nat} {k0 : K} {H : Heap} {ck : Nat} {Kn : V → Heap → Nat → Prop} (hX : (⟨Proofs.Tryz.prog, Γ, G0, r0, k0⟩ : Cx).Ok) {y : Lay} {r : Reg} {e : Ev} (hat : RegAt H y r) (hy : LayOk y ck) (hf : ∀ l : Loc, ck < l.1 → H l = none)
    (hk : kindOf e.kind = some .answer) (hp : AppPre r e .answer) (hKn : ∀ ck', ck ≤ ck' → Kn (.tup []) (putReg H y (applyE levelE r e)) ck') :
    CallT ⟨Proofs.Tryz.prog, Γ, G0, r0, k0⟩ H ck 156 [.ptr y.box y.off, .agg (encEv e)] Kn := by
  have hvl := hp.vals
  have hnm := hp.names
  have hr := hp.reg.rl
  have hv0 : 0 < e.vals.length := by rw [hvl]; decide
  have hyo := hy
  have hato := hat
  rw [applyE_of hk] at hKn
  have hbx2 : ∀ r', putReg H y r' y.box = some (.cells (y.pre ++ regCells y r')) := fun r' => (putReg_at hy r').box
  have hdy : ∀ r' cs, cs = y.pre ++ regCells y { r' with day := el e.vals 0 } → updH (putReg H y r') y.box (.cells cs) = putReg H y { r' with day := el e.vals 0 } := fun r' cs h => put_day h
  obtain ⟨box, pre, n0, n1, n2, n3, n4, n5⟩ := y
  rcases hy.pre with q | ⟨u1, u2, q⟩
  · have q : pre = [] := q
    subst q
    show CallT _ H ck 156 [.ptr box 0, .agg (encEv e)] Kn
    refine CallT.less (CallT.inline hX Proofs.Tryz.func156 rfl foll (D := D156) (by kernel_rfl) (tab [(96, formsC chkF appF), (iceKey 3, iceC), (inlKey 11, iceC)]) (tab_ok ⟨oForms_ok, ice_holds, ice_holds, trivial⟩) fun k1 => ?_)
    simp only [Proofs.Tryz.f156]
    rw [app_mkT (Nat.le_of_ble_eq_true rfl)]
    simp (maxSteps := 400000) only [go_sem, ↓upXAbsY, ↓upXAbsZa, ↓upXOffC, encEv, encStrs, encInts, hk, appF]
    refine .inl fun hX2 => ?_
    refine fa11_call hX2 hato (hyo.mono (ck' := ck + 1 + 1 + 1) (by omega)) (fun l hl => hf l (by have : ck + 1 + 1 + 1 < l.1 := hl; omega)) hr hvl hnm (there_of (i := 0) hp.known (by decide) (by decide)) fun ck2 hck2 => ?_
    have hb := hbx2 (applyK levelE r e .answer)
    simp only [regCells, List.cons_append, List.nil_append] at hb
    simp (maxSteps := 400000) only [go_sem, ↓upXAbsY, ↓upXAbsZa, ↓upXOffC, encEv, encStrs, encInts, hb]
    exact ⟨by omega, _, hpLe_of_eq (hdy (applyK levelE r e .answer) _ rfl), hKn _ (by omega)⟩
  · have q : pre = [u1, u2] := q
    subst q
    show CallT _ H ck 156 [.ptr box 2, .agg (encEv e)] Kn
    refine CallT.less (CallT.inline hX Proofs.Tryz.func156 rfl foll (D := D156) (by kernel_rfl) (tab [(96, formsC chkF appF), (iceKey 3, iceC), (inlKey 11, iceC)]) (tab_ok ⟨oForms_ok, ice_holds, ice_holds, trivial⟩) fun k1 => ?_)
    simp only [Proofs.Tryz.f156]
    rw [app_mkT (Nat.le_of_ble_eq_true rfl)]
    simp (maxSteps := 400000) only [go_sem, ↓upXAbsY, ↓upXAbsZa, ↓upXOffC, encEv, encStrs, encInts, hk, appF]
    refine .inl fun hX2 => ?_
    refine fa11_call hX2 hato (hyo.mono (ck' := ck + 1 + 1 + 1) (by omega)) (fun l hl => hf l (by have : ck + 1 + 1 + 1 < l.1 := hl; omega)) hr hvl hnm (there_of (i := 0) hp.known (by decide) (by decide)) fun ck2 hck2 => ?_
    have hb := hbx2 (applyK levelE r e .answer)
    simp only [regCells, List.cons_append, List.nil_append] at hb
    simp (maxSteps := 400000) only [go_sem, ↓upXAbsY, ↓upXAbsZa, ↓upXOffC, encEv, encStrs, encInts, hb]
    exact ⟨by omega, _, hpLe_of_eq (hdy (applyK levelE r e .answer) _ rfl), hKn _ (by omega)⟩

theorem ap12_call {Γ : FuncId → Option Contract} {r0 : Option Nat} {k0 : K} {H : Heap} {ck : Nat} {Kn : V → Heap → Nat → Prop} (hX : (⟨Proofs.Tryz.prog, Γ, G0, r0, k0⟩ : Cx).Ok) {y : Lay} {r : Reg} {e : Ev} (hat : RegAt H y r) (hy : LayOk y ck) (hf : ∀ l : Loc, ck < l.1 → H l = none)
    (hk : kindOf e.kind = some .dismiss) (hp : AppPre r e .dismiss) (hKn : ∀ ck', ck ≤ ck' → Kn (.tup []) (putReg H y (applyE levelE r e)) ck') :
    CallT ⟨Proofs.Tryz.prog, Γ, G0, r0, k0⟩ H ck 156 [.ptr y.box y.off, .agg (encEv e)] Kn := by
  have hvl := hp.vals
  have hnm := hp.names
  have hr := hp.reg.rl
  have hv0 : 0 < e.vals.length := by rw [hvl]; decide
  have hyo := hy
  have hato := hat
  rw [applyE_of hk] at hKn
  have hbx2 : ∀ r', putReg H y r' y.box = some (.cells (y.pre ++ regCells y r')) := fun r' => (putReg_at hy r').box
  have hdy : ∀ r' cs, cs = y.pre ++ regCells y { r' with day := el e.vals 0 } → updH (putReg H y r') y.box (.cells cs) = putReg H y { r' with day := el e.vals 0 } := fun r' cs h => put_day h
  obtain ⟨box, pre, n0, n1, n2, n3, n4, n5⟩ := y
  rcases hy.pre with q | ⟨u1, u2, q⟩
  · have q : pre = [] := q
    subst q
    show CallT _ H ck 156 [.ptr box 0, .agg (encEv e)] Kn
    refine CallT.less (CallT.inline hX Proofs.Tryz.func156 rfl foll (D := D156) (by kernel_rfl) (tab [(96, formsC chkF appF), (iceKey 3, iceC), (inlKey 11, iceC)]) (tab_ok ⟨oForms_ok, ice_holds, ice_holds, trivial⟩) fun k1 => ?_)
    simp only [Proofs.Tryz.f156]
    rw [app_mkT (Nat.le_of_ble_eq_true rfl)]
    simp (maxSteps := 400000) only [go_sem, ↓upXAbsY, ↓upXAbsZa, ↓upXOffC, encEv, encStrs, encInts, hk, appF]
    refine .inl fun hX2 => ?_
    refine fa12_call hX2 hato (hyo.mono (ck' := ck + 1 + 1 + 1) (by omega)) (fun l hl => hf l (by have : ck + 1 + 1 + 1 < l.1 := hl; omega)) hr hvl hnm (there_of (i := 0) hp.known (by decide) (by decide)) fun ck2 hck2 => ?_
    have hb := hbx2 (applyK levelE r e .dismiss)
    simp only [regCells, List.cons_append, List.nil_append] at hb
    simp (maxSteps := 400000) only [go_sem, ↓upXAbsY, ↓upXAbsZa, ↓upXOffC, encEv, encStrs, encInts, hb]
    exact ⟨by omega, _, hpLe_of_eq (hdy (applyK levelE r e .dismiss) _ rfl), hKn _ (by omega)⟩
  · have q : pre = [u1, u2] := q
    subst q
    show CallT _ H ck 156 [.ptr box 2, .agg (encEv e)] Kn
    refine CallT.less (CallT.inline hX Proofs.Tryz.func156 rfl foll (D := D156) (by kernel_rfl) (tab [(96, formsC chkF appF), (iceKey 3, iceC), (inlKey 11, iceC)]) (tab_ok ⟨oForms_ok, ice_holds, ice_holds, trivial⟩) fun k1 => ?_)
    simp only [Proofs.Tryz.f156]
    rw [app_mkT (Nat.le_of_ble_eq_true rfl)]
    simp (maxSteps := 400000) only [go_sem, ↓upXAbsY, ↓upXAbsZa, ↓upXOffC, encEv, encStrs, encInts, hk, appF]
    refine .inl fun hX2 => ?_
    refine fa12_call hX2 hato (hyo.mono (ck' := ck + 1 + 1 + 1) (by omega)) (fun l hl => hf l (by have : ck + 1 + 1 + 1 < l.1 := hl; omega)) hr hvl hnm (there_of (i := 0) hp.known (by decide) (by decide)) fun ck2 hck2 => ?_
    have hb := hbx2 (applyK levelE r e .dismiss)
    simp only [regCells, List.cons_append, List.nil_append] at hb
    simp (maxSteps := 400000) only [go_sem, ↓upXAbsY, ↓upXAbsZa, ↓upXOffC, encEv, encStrs, encInts, hb]
    exact ⟨by omega, _, hpLe_of_eq (hdy (applyK levelE r e .dismiss) _ rfl), hKn _ (by omega)⟩

theorem apply_call {Γ : FuncId → Option Contract} {r0 : Option Nat} {k0 : K} {H : Heap} {ck : Nat} {Kn : V → Heap → Nat → Prop} (hX : (⟨Proofs.Tryz.prog, Γ, G0, r0, k0⟩ : Cx).Ok) {y : Lay} {r : Reg} {e : Ev} {k : Kd} (hat : RegAt H y r) (hy : LayOk y ck) (hf : ∀ l : Loc, ck < l.1 → H l = none)
    (hk : kindOf e.kind = some k) (hu : k ≠ .undo) (hp : AppPre r e k) (hKn : ∀ ck', ck ≤ ck' → Kn (.tup []) (putReg H y (applyE levelE r e)) ck') :
    CallT ⟨Proofs.Tryz.prog, Γ, G0, r0, k0⟩ H ck 156 [.ptr y.box y.off, .agg (encEv e)] Kn := by
  cases k
  · exact ap1_call hX hat hy hf hk hp hKn
  · exact ap2_call hX hat hy hf hk hp hKn
  · exact ap3_call hX hat hy hf hk hp hKn
  · exact ap4_call hX hat hy hf hk hp hKn
  · exact ap5_call hX hat hy hf hk hp hKn
  · exact ap6_call hX hat hy hf hk hp hKn
  · exact ap7_call hX hat hy hf hk hp hKn
  · exact ap8_call hX hat hy hf hk hp hKn
  · exact ap9_call hX hat hy hf hk hp hKn
  · exact ap10_call hX hat hy hf hk hp hKn
  · exact ap11_call hX hat hy hf hk hp hKn
  · exact ap12_call hX hat hy hf hk hp hKn
  · exact absurd rfl hu

end Go.Fly.Tryz
