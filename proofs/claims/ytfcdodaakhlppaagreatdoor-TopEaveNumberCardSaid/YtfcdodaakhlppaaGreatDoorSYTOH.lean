/- The office: what events do. -/
import Derived.Test.YtfcdodaakhlppaaGreatDoorSYTEn
import Derived.Test.YtfcdodaakhlppaaGreatDoorAO
set_option linter.unusedSimpArgs false
set_option linter.unusedVariables false
set_option maxRecDepth 100000
set_option maxHeartbeats 1000000
namespace Go.Fly.Tryz
open Go Off

theorem fa1_call {Γ : FuncId → Option Contract} {r0 : Option Nat} {k0 : K} {H : Heap} {ck : Nat} {Kn : V → Heap → Nat → Prop} (hX : (⟨Proofs.Tryz.prog, Γ, G0, r0, k0⟩ : Cx).Ok) {y : Lay} {r : Reg} {e : Ev} (hat : RegAt H y r) (hy : LayOk y ck) (hf : ∀ l : Loc, ck < l.1 → H l = none)
    (hr : RL r) (hv : e.vals.length = 2) (hn : e.names.length = 1) (hKn : ∀ ck', ck ≤ ck' → Kn (.tup []) (putReg H y (applyK levelE r e .type)) ck') :
    CallT ⟨Proofs.Tryz.prog, Γ, G0, r0, k0⟩ H ck 158 [.ptr y.box y.off, .agg (encEv e)] Kn := by
  obtain ⟨box, pre, n0, n1, n2, n3, n4, n5⟩ := y
  have h0 := hy.hi box (by simp [Lay.locs])
  have f1 := fun d => hf (ck + 1, d) (by show ck < ck + 1; omega)
  have f2 := fun d => hf (ck + 1 + 1, d) (by show ck < ck + 1 + 1; omega)
  have f3 := fun d => hf (ck + 1 + 1 + 1, d) (by show ck < ck + 1 + 1 + 1; omega)
  have e1 := fun d => freshF (l := box) (ck := ck) (c := ck + 1 + 1 + 1) (d := d) h0 (by omega)
  have e1g := fun d => freshG (l := box) (ck := ck) (c := ck + 1 + 1 + 1) (d := d) h0 (by omega)
  obtain ⟨r1, r2, r3, r4, r5, r6⟩ := id hr
  have nd := hy.nd
  simp only [Lay.locs, List.nodup_cons, List.mem_cons, List.not_mem_nil, or_false, not_or] at nd
  have a1 : ¬ box = n0 := by obtain ⟨⟨b0, b1, b2, b3, b4, b5⟩, -⟩ := nd; exact b0
  have a1' : ¬ n0 = box := fun q => a1 q.symm
  have h1 := hy.hi n0 (by simp [Lay.locs])
  have e2 := fun d => freshF (l := n0) (ck := ck) (c := ck + 1 + 1 + 1) (d := d) h1 (by omega)
  have e2g := fun d => freshG (l := n0) (ck := ck) (c := ck + 1 + 1 + 1) (d := d) h1 (by omega)
  have hty : H n0 = some (.arr r.types.length 3 fun i => encTy (el r.types i)) := hat.types
  rcases hy.pre with q | ⟨u1, u2, q⟩
  · have q : pre = [] := q
    subst q
    have hbx : H box = some (.cells [.int .i64 r.day, .msl n0 0 r.types.length, .msl n1 0 r.houses.length, .msl n2 0 r.flights.length, .msl n3 0 r.maps.length, .msl n4 0 r.offers.length, .msl n5 0 r.complaints.length, .int .i64 r.fund]) := hat.box
    show CallT _ H ck 158 [.ptr box 0, .agg (encEv e)] Kn
    refine CallT.less (CallT.inline hX Proofs.Tryz.func158 rfl foll (D := D158) (by kernel_rfl) (tab [(iceKey 3, iceC)]) (tab_ok ⟨ice_holds, trivial⟩) fun k1 => ?_)
    simp only [Proofs.Tryz.f158]
    rw [app_mkT (Nat.le_of_ble_eq_true rfl)]
    simp (maxSteps := 400000) only [go_sem, ↓upXAbsY, ↓upXAbsZa, ↓upXOffC, encEv, encStrs, encInts, hbx, f1, f2, f3, e1, e1g, hty, e2, e2g, a1, a1']
    exact ⟨by omega, by omega, ⟨by omega, by omega, row_ok rfl (ones_ty ⟨el e.names 0, el e.vals 1, 1000⟩)⟩, _, put_types (r' := applyK levelE r e .type) hy hat hf (by repeat (first | exact Chg.refl _ _ _ | refine Chg.mem ?_ (List.mem_cons_self ..) | refine Chg.mem ?_ (List.mem_cons_of_mem _ (List.mem_cons_self ..)) | refine Chg.new ?_ (by show ck < _; omega))) ((updH_same _ _ _).trans (congrArg (fun cs => some (AObj.cells cs)) (by simp only [regCells, applyK, List.length_append]; rfl)))
      ⟨_, (updH_ne a1').trans (updH_same _ _ _), objLe_snoc (f := encTy) (l := r.types) (x := ⟨el e.names 0, el e.vals 1, 1000⟩) rfl fun j hj => snocE rfl rfl hj⟩ rfl rfl rfl rfl rfl, hKn _ (by omega)⟩
  · have q : pre = [u1, u2] := q
    subst q
    have hbx : H box = some (.cells [u1, u2, .int .i64 r.day, .msl n0 0 r.types.length, .msl n1 0 r.houses.length, .msl n2 0 r.flights.length, .msl n3 0 r.maps.length, .msl n4 0 r.offers.length, .msl n5 0 r.complaints.length, .int .i64 r.fund]) := hat.box
    show CallT _ H ck 158 [.ptr box 2, .agg (encEv e)] Kn
    refine CallT.less (CallT.inline hX Proofs.Tryz.func158 rfl foll (D := D158) (by kernel_rfl) (tab [(iceKey 3, iceC)]) (tab_ok ⟨ice_holds, trivial⟩) fun k1 => ?_)
    simp only [Proofs.Tryz.f158]
    rw [app_mkT (Nat.le_of_ble_eq_true rfl)]
    simp (maxSteps := 400000) only [go_sem, ↓upXAbsY, ↓upXAbsZa, ↓upXOffC, encEv, encStrs, encInts, hbx, f1, f2, f3, e1, e1g, hty, e2, e2g, a1, a1']
    exact ⟨by omega, by omega, ⟨by omega, by omega, row_ok rfl (ones_ty ⟨el e.names 0, el e.vals 1, 1000⟩)⟩, _, put_types (r' := applyK levelE r e .type) hy hat hf (by repeat (first | exact Chg.refl _ _ _ | refine Chg.mem ?_ (List.mem_cons_self ..) | refine Chg.mem ?_ (List.mem_cons_of_mem _ (List.mem_cons_self ..)) | refine Chg.new ?_ (by show ck < _; omega))) ((updH_same _ _ _).trans (congrArg (fun cs => some (AObj.cells cs)) (by simp only [regCells, applyK, List.length_append]; rfl)))
      ⟨_, (updH_ne a1').trans (updH_same _ _ _), objLe_snoc (f := encTy) (l := r.types) (x := ⟨el e.names 0, el e.vals 1, 1000⟩) rfl fun j hj => snocE rfl rfl hj⟩ rfl rfl rfl rfl rfl, hKn _ (by omega)⟩


theorem fa2_call {Γ : FuncId → Option Contract} {r0 : Option Nat} {k0 : K} {H : Heap} {ck : Nat} {Kn : V → Heap → Nat → Prop} (hX : (⟨Proofs.Tryz.prog, Γ, G0, r0, k0⟩ : Cx).Ok) {y : Lay} {r : Reg} {e : Ev} (hat : RegAt H y r) (hy : LayOk y ck) (hf : ∀ l : Loc, ck < l.1 → H l = none)
    (hr : RL r) (hv : e.vals.length = 2) (hn : e.names.length = 1) (hKn : ∀ ck', ck ≤ ck' → Kn (.tup []) (putReg H y (applyK levelE r e .house)) ck') :
    CallT ⟨Proofs.Tryz.prog, Γ, G0, r0, k0⟩ H ck 160 [.ptr y.box y.off, .agg (encEv e)] Kn := by
  obtain ⟨box, pre, n0, n1, n2, n3, n4, n5⟩ := y
  have h0 := hy.hi box (by simp [Lay.locs])
  have f1 := fun d => hf (ck + 1, d) (by show ck < ck + 1; omega)
  have f2 := fun d => hf (ck + 1 + 1, d) (by show ck < ck + 1 + 1; omega)
  have f3 := fun d => hf (ck + 1 + 1 + 1, d) (by show ck < ck + 1 + 1 + 1; omega)
  have e1 := fun d => freshF (l := box) (ck := ck) (c := ck + 1 + 1 + 1) (d := d) h0 (by omega)
  have e1g := fun d => freshG (l := box) (ck := ck) (c := ck + 1 + 1 + 1) (d := d) h0 (by omega)
  obtain ⟨r1, r2, r3, r4, r5, r6⟩ := id hr
  have nd := hy.nd
  simp only [Lay.locs, List.nodup_cons, List.mem_cons, List.not_mem_nil, or_false, not_or] at nd
  have a1 : ¬ box = n1 := by obtain ⟨⟨b0, b1, b2, b3, b4, b5⟩, -⟩ := nd; exact b1
  have a1' : ¬ n1 = box := fun q => a1 q.symm
  have h1 := hy.hi n1 (by simp [Lay.locs])
  have e2 := fun d => freshF (l := n1) (ck := ck) (c := ck + 1 + 1 + 1) (d := d) h1 (by omega)
  have e2g := fun d => freshG (l := n1) (ck := ck) (c := ck + 1 + 1 + 1) (d := d) h1 (by omega)
  have hty : H n1 = some (.arr r.houses.length 2 fun i => encHo (el r.houses i)) := hat.houses
  rcases hy.pre with q | ⟨u1, u2, q⟩
  · have q : pre = [] := q
    subst q
    have hbx : H box = some (.cells [.int .i64 r.day, .msl n0 0 r.types.length, .msl n1 0 r.houses.length, .msl n2 0 r.flights.length, .msl n3 0 r.maps.length, .msl n4 0 r.offers.length, .msl n5 0 r.complaints.length, .int .i64 r.fund]) := hat.box
    show CallT _ H ck 160 [.ptr box 0, .agg (encEv e)] Kn
    refine CallT.less (CallT.inline hX Proofs.Tryz.func160 rfl foll (D := D160) (by kernel_rfl) (tab [(iceKey 3, iceC)]) (tab_ok ⟨ice_holds, trivial⟩) fun k1 => ?_)
    simp only [Proofs.Tryz.f160]
    rw [app_mkT (Nat.le_of_ble_eq_true rfl)]
    simp (maxSteps := 400000) only [go_sem, ↓upXAbsY, ↓upXAbsZa, ↓upXOffC, encEv, encStrs, encInts, hbx, f1, f2, f3, e1, e1g, hty, e2, e2g, a1, a1']
    exact ⟨by omega, by omega, ⟨by omega, by omega, row_ok rfl (ones_ho ⟨el e.names 0, el e.vals 1⟩)⟩, _, put_houses (r' := applyK levelE r e .house) hy hat hf (by repeat (first | exact Chg.refl _ _ _ | refine Chg.mem ?_ (List.mem_cons_self ..) | refine Chg.mem ?_ (List.mem_cons_of_mem _ (List.mem_cons_self ..)) | refine Chg.new ?_ (by show ck < _; omega))) ((updH_same _ _ _).trans (congrArg (fun cs => some (AObj.cells cs)) (by simp only [regCells, applyK, List.length_append]; rfl)))
      ⟨_, (updH_ne a1').trans (updH_same _ _ _), objLe_snoc (f := encHo) (l := r.houses) (x := ⟨el e.names 0, el e.vals 1⟩) rfl fun j hj => snocE rfl rfl hj⟩ rfl rfl rfl rfl rfl, hKn _ (by omega)⟩
  · have q : pre = [u1, u2] := q
    subst q
    have hbx : H box = some (.cells [u1, u2, .int .i64 r.day, .msl n0 0 r.types.length, .msl n1 0 r.houses.length, .msl n2 0 r.flights.length, .msl n3 0 r.maps.length, .msl n4 0 r.offers.length, .msl n5 0 r.complaints.length, .int .i64 r.fund]) := hat.box
    show CallT _ H ck 160 [.ptr box 2, .agg (encEv e)] Kn
    refine CallT.less (CallT.inline hX Proofs.Tryz.func160 rfl foll (D := D160) (by kernel_rfl) (tab [(iceKey 3, iceC)]) (tab_ok ⟨ice_holds, trivial⟩) fun k1 => ?_)
    simp only [Proofs.Tryz.f160]
    rw [app_mkT (Nat.le_of_ble_eq_true rfl)]
    simp (maxSteps := 400000) only [go_sem, ↓upXAbsY, ↓upXAbsZa, ↓upXOffC, encEv, encStrs, encInts, hbx, f1, f2, f3, e1, e1g, hty, e2, e2g, a1, a1']
    exact ⟨by omega, by omega, ⟨by omega, by omega, row_ok rfl (ones_ho ⟨el e.names 0, el e.vals 1⟩)⟩, _, put_houses (r' := applyK levelE r e .house) hy hat hf (by repeat (first | exact Chg.refl _ _ _ | refine Chg.mem ?_ (List.mem_cons_self ..) | refine Chg.mem ?_ (List.mem_cons_of_mem _ (List.mem_cons_self ..)) | refine Chg.new ?_ (by show ck < _; omega))) ((updH_same _ _ _).trans (congrArg (fun cs => some (AObj.cells cs)) (by simp only [regCells, applyK, List.length_append]; rfl)))
      ⟨_, (updH_ne a1').trans (updH_same _ _ _), objLe_snoc (f := encHo) (l := r.houses) (x := ⟨el e.names 0, el e.vals 1⟩) rfl fun j hj => snocE rfl rfl hj⟩ rfl rfl rfl rfl rfl, hKn _ (by omega)⟩


theorem fa3_call {Γ : FuncId → Option Contract} {r0 : Option Nat} {k0 : K} {H : Heap} {ck : Nat} {Kn : V → Heap → Nat → Prop} (hX : (⟨Proofs.Tryz.prog, Γ, G0, r0, k0⟩ : Cx).Ok) {y : Lay} {r : Reg} {e : Ev} (hat : RegAt H y r) (hy : LayOk y ck) (hf : ∀ l : Loc, ck < l.1 → H l = none)
    (hr : RL r) (hv : e.vals.length = 2) (hn : e.names.length = 2) (hKn : ∀ ck', ck ≤ ck' → Kn (.tup []) (putReg H y (applyK levelE r e .flight)) ck') :
    CallT ⟨Proofs.Tryz.prog, Γ, G0, r0, k0⟩ H ck 162 [.ptr y.box y.off, .agg (encEv e)] Kn := by
  obtain ⟨box, pre, n0, n1, n2, n3, n4, n5⟩ := y
  have h0 := hy.hi box (by simp [Lay.locs])
  have f1 := fun d => hf (ck + 1, d) (by show ck < ck + 1; omega)
  have f2 := fun d => hf (ck + 1 + 1, d) (by show ck < ck + 1 + 1; omega)
  have f3 := fun d => hf (ck + 1 + 1 + 1, d) (by show ck < ck + 1 + 1 + 1; omega)
  have e1 := fun d => freshF (l := box) (ck := ck) (c := ck + 1 + 1 + 1) (d := d) h0 (by omega)
  have e1g := fun d => freshG (l := box) (ck := ck) (c := ck + 1 + 1 + 1) (d := d) h0 (by omega)
  obtain ⟨r1, r2, r3, r4, r5, r6⟩ := id hr
  have nd := hy.nd
  simp only [Lay.locs, List.nodup_cons, List.mem_cons, List.not_mem_nil, or_false, not_or] at nd
  have a1 : ¬ box = n2 := by obtain ⟨⟨b0, b1, b2, b3, b4, b5⟩, -⟩ := nd; exact b2
  have a1' : ¬ n2 = box := fun q => a1 q.symm
  have h1 := hy.hi n2 (by simp [Lay.locs])
  have e2 := fun d => freshF (l := n2) (ck := ck) (c := ck + 1 + 1 + 1) (d := d) h1 (by omega)
  have e2g := fun d => freshG (l := n2) (ck := ck) (c := ck + 1 + 1 + 1) (d := d) h1 (by omega)
  have hty : H n2 = some (.arr r.flights.length 5 fun i => encFl (el r.flights i)) := hat.flights
  rcases hy.pre with q | ⟨u1, u2, q⟩
  · have q : pre = [] := q
    subst q
    have hbx : H box = some (.cells [.int .i64 r.day, .msl n0 0 r.types.length, .msl n1 0 r.houses.length, .msl n2 0 r.flights.length, .msl n3 0 r.maps.length, .msl n4 0 r.offers.length, .msl n5 0 r.complaints.length, .int .i64 r.fund]) := hat.box
    show CallT _ H ck 162 [.ptr box 0, .agg (encEv e)] Kn
    refine CallT.less (CallT.inline hX Proofs.Tryz.func162 rfl foll (D := D162) (by kernel_rfl) (tab [(iceKey 3, iceC)]) (tab_ok ⟨ice_holds, trivial⟩) fun k1 => ?_)
    simp only [Proofs.Tryz.f162]
    rw [app_mkT (Nat.le_of_ble_eq_true rfl)]
    simp (maxSteps := 400000) only [go_sem, ↓upXAbsY, ↓upXAbsZa, ↓upXOffC, encEv, encStrs, encInts, hbx, f1, f2, f3, e1, e1g, hty, e2, e2g, a1, a1']
    exact ⟨by omega, by omega, by omega, by omega, ⟨by omega, by omega, row_ok rfl (ones_fl ⟨el e.names 0, el e.names 1, el e.vals 0, el e.vals 1, -1⟩)⟩, _, put_flights (r' := applyK levelE r e .flight) hy hat hf (by repeat (first | exact Chg.refl _ _ _ | refine Chg.mem ?_ (List.mem_cons_self ..) | refine Chg.mem ?_ (List.mem_cons_of_mem _ (List.mem_cons_self ..)) | refine Chg.new ?_ (by show ck < _; omega))) ((updH_same _ _ _).trans (congrArg (fun cs => some (AObj.cells cs)) (by simp only [regCells, applyK, List.length_append]; rfl)))
      ⟨_, (updH_ne a1').trans (updH_same _ _ _), objLe_snoc (f := encFl) (l := r.flights) (x := ⟨el e.names 0, el e.names 1, el e.vals 0, el e.vals 1, -1⟩) rfl fun j hj => snocE rfl rfl hj⟩ rfl rfl rfl rfl rfl, hKn _ (by omega)⟩
  · have q : pre = [u1, u2] := q
    subst q
    have hbx : H box = some (.cells [u1, u2, .int .i64 r.day, .msl n0 0 r.types.length, .msl n1 0 r.houses.length, .msl n2 0 r.flights.length, .msl n3 0 r.maps.length, .msl n4 0 r.offers.length, .msl n5 0 r.complaints.length, .int .i64 r.fund]) := hat.box
    show CallT _ H ck 162 [.ptr box 2, .agg (encEv e)] Kn
    refine CallT.less (CallT.inline hX Proofs.Tryz.func162 rfl foll (D := D162) (by kernel_rfl) (tab [(iceKey 3, iceC)]) (tab_ok ⟨ice_holds, trivial⟩) fun k1 => ?_)
    simp only [Proofs.Tryz.f162]
    rw [app_mkT (Nat.le_of_ble_eq_true rfl)]
    simp (maxSteps := 400000) only [go_sem, ↓upXAbsY, ↓upXAbsZa, ↓upXOffC, encEv, encStrs, encInts, hbx, f1, f2, f3, e1, e1g, hty, e2, e2g, a1, a1']
    exact ⟨by omega, by omega, by omega, by omega, ⟨by omega, by omega, row_ok rfl (ones_fl ⟨el e.names 0, el e.names 1, el e.vals 0, el e.vals 1, -1⟩)⟩, _, put_flights (r' := applyK levelE r e .flight) hy hat hf (by repeat (first | exact Chg.refl _ _ _ | refine Chg.mem ?_ (List.mem_cons_self ..) | refine Chg.mem ?_ (List.mem_cons_of_mem _ (List.mem_cons_self ..)) | refine Chg.new ?_ (by show ck < _; omega))) ((updH_same _ _ _).trans (congrArg (fun cs => some (AObj.cells cs)) (by simp only [regCells, applyK, List.length_append]; rfl)))
      ⟨_, (updH_ne a1').trans (updH_same _ _ _), objLe_snoc (f := encFl) (l := r.flights) (x := ⟨el e.names 0, el e.names 1, el e.vals 0, el e.vals 1, -1⟩) rfl fun j hj => snocE rfl rfl hj⟩ rfl rfl rfl rfl rfl, hKn _ (by omega)⟩


theorem fa7_call {Γ : FuncId → Option Contract} {r0 : Option Nat} {k0 : K} {H : Heap} {ck : Nat} {Kn : V → Heap → Nat → Prop} (hX : (⟨Proofs.Tryz.prog, Γ, G0, r0, k0⟩ : Cx).Ok) {y : Lay} {r : Reg} {e : Ev} (hat : RegAt H y r) (hy : LayOk y ck) (hf : ∀ l : Loc, ck < l.1 → H l = none)
    (hr : RL r) (hv : e.vals.length = 2) (hn : e.names.length = 2) (hKn : ∀ ck', ck ≤ ck' → Kn (.tup []) (putReg H y (applyK levelE r e .offer)) ck') :
    CallT ⟨Proofs.Tryz.prog, Γ, G0, r0, k0⟩ H ck 176 [.ptr y.box y.off, .agg (encEv e)] Kn := by
  obtain ⟨box, pre, n0, n1, n2, n3, n4, n5⟩ := y
  have h0 := hy.hi box (by simp [Lay.locs])
  have f1 := fun d => hf (ck + 1, d) (by show ck < ck + 1; omega)
  have f2 := fun d => hf (ck + 1 + 1, d) (by show ck < ck + 1 + 1; omega)
  have f3 := fun d => hf (ck + 1 + 1 + 1, d) (by show ck < ck + 1 + 1 + 1; omega)
  have e1 := fun d => freshF (l := box) (ck := ck) (c := ck + 1 + 1 + 1) (d := d) h0 (by omega)
  have e1g := fun d => freshG (l := box) (ck := ck) (c := ck + 1 + 1 + 1) (d := d) h0 (by omega)
  obtain ⟨r1, r2, r3, r4, r5, r6⟩ := id hr
  have nd := hy.nd
  simp only [Lay.locs, List.nodup_cons, List.mem_cons, List.not_mem_nil, or_false, not_or] at nd
  have a1 : ¬ box = n4 := by obtain ⟨⟨b0, b1, b2, b3, b4, b5⟩, -⟩ := nd; exact b4
  have a1' : ¬ n4 = box := fun q => a1 q.symm
  have h1 := hy.hi n4 (by simp [Lay.locs])
  have e2 := fun d => freshF (l := n4) (ck := ck) (c := ck + 1 + 1 + 1) (d := d) h1 (by omega)
  have e2g := fun d => freshG (l := n4) (ck := ck) (c := ck + 1 + 1 + 1) (d := d) h1 (by omega)
  have hty : H n4 = some (.arr r.offers.length 4 fun i => encOf (el r.offers i)) := hat.offers
  rcases hy.pre with q | ⟨u1, u2, q⟩
  · have q : pre = [] := q
    subst q
    have hbx : H box = some (.cells [.int .i64 r.day, .msl n0 0 r.types.length, .msl n1 0 r.houses.length, .msl n2 0 r.flights.length, .msl n3 0 r.maps.length, .msl n4 0 r.offers.length, .msl n5 0 r.complaints.length, .int .i64 r.fund]) := hat.box
    show CallT _ H ck 176 [.ptr box 0, .agg (encEv e)] Kn
    refine CallT.less (CallT.inline hX Proofs.Tryz.func176 rfl foll (D := D176) (by kernel_rfl) (tab [(iceKey 3, iceC)]) (tab_ok ⟨ice_holds, trivial⟩) fun k1 => ?_)
    simp only [Proofs.Tryz.f176]
    rw [app_mkT (Nat.le_of_ble_eq_true rfl)]
    simp (maxSteps := 400000) only [go_sem, ↓upXAbsY, ↓upXAbsZa, ↓upXOffC, encEv, encStrs, encInts, hbx, f1, f2, f3, e1, e1g, hty, e2, e2g, a1, a1']
    exact ⟨by omega, by omega, by omega, ⟨by omega, by omega, row_ok rfl (ones_of ⟨el e.names 0, el e.names 1, el e.vals 1, false⟩)⟩, _, put_offers (r' := applyK levelE r e .offer) hy hat hf (by repeat (first | exact Chg.refl _ _ _ | refine Chg.mem ?_ (List.mem_cons_self ..) | refine Chg.mem ?_ (List.mem_cons_of_mem _ (List.mem_cons_self ..)) | refine Chg.new ?_ (by show ck < _; omega))) ((updH_same _ _ _).trans (congrArg (fun cs => some (AObj.cells cs)) (by simp only [regCells, applyK, List.length_append]; rfl)))
      ⟨_, (updH_ne a1').trans (updH_same _ _ _), objLe_snoc (f := encOf) (l := r.offers) (x := ⟨el e.names 0, el e.names 1, el e.vals 1, false⟩) rfl fun j hj => snocE rfl rfl hj⟩ rfl rfl rfl rfl rfl, hKn _ (by omega)⟩
  · have q : pre = [u1, u2] := q
    subst q
    have hbx : H box = some (.cells [u1, u2, .int .i64 r.day, .msl n0 0 r.types.length, .msl n1 0 r.houses.length, .msl n2 0 r.flights.length, .msl n3 0 r.maps.length, .msl n4 0 r.offers.length, .msl n5 0 r.complaints.length, .int .i64 r.fund]) := hat.box
    show CallT _ H ck 176 [.ptr box 2, .agg (encEv e)] Kn
    refine CallT.less (CallT.inline hX Proofs.Tryz.func176 rfl foll (D := D176) (by kernel_rfl) (tab [(iceKey 3, iceC)]) (tab_ok ⟨ice_holds, trivial⟩) fun k1 => ?_)
    simp only [Proofs.Tryz.f176]
    rw [app_mkT (Nat.le_of_ble_eq_true rfl)]
    simp (maxSteps := 400000) only [go_sem, ↓upXAbsY, ↓upXAbsZa, ↓upXOffC, encEv, encStrs, encInts, hbx, f1, f2, f3, e1, e1g, hty, e2, e2g, a1, a1']
    exact ⟨by omega, by omega, by omega, ⟨by omega, by omega, row_ok rfl (ones_of ⟨el e.names 0, el e.names 1, el e.vals 1, false⟩)⟩, _, put_offers (r' := applyK levelE r e .offer) hy hat hf (by repeat (first | exact Chg.refl _ _ _ | refine Chg.mem ?_ (List.mem_cons_self ..) | refine Chg.mem ?_ (List.mem_cons_of_mem _ (List.mem_cons_self ..)) | refine Chg.new ?_ (by show ck < _; omega))) ((updH_same _ _ _).trans (congrArg (fun cs => some (AObj.cells cs)) (by simp only [regCells, applyK, List.length_append]; rfl)))
      ⟨_, (updH_ne a1').trans (updH_same _ _ _), objLe_snoc (f := encOf) (l := r.offers) (x := ⟨el e.names 0, el e.names 1, el e.vals 1, false⟩) rfl fun j hj => snocE rfl rfl hj⟩ rfl rfl rfl rfl rfl, hKn _ (by omega)⟩


theorem fa10_call {Γ : FuncId → Option Contract} {r0 : Option Nat} {k0 : K} {H : Heap} {ck : Nat} {Kn : V → Heap → Nat → Prop} (hX : (⟨Proofs.Tryz.prog, Γ, G0, r0, k0⟩ : Cx).Ok) {y : Lay} {r : Reg} {e : Ev} (hat : RegAt H y r) (hy : LayOk y ck) (hf : ∀ l : Loc, ck < l.1 → H l = none)
    (hr : RL r) (hv : e.vals.length = 2) (hn : e.names.length = 2) (hKn : ∀ ck', ck ≤ ck' → Kn (.tup []) (putReg H y (applyK levelE r e .complain)) ck') :
    CallT ⟨Proofs.Tryz.prog, Γ, G0, r0, k0⟩ H ck 182 [.ptr y.box y.off, .agg (encEv e)] Kn := by
  obtain ⟨box, pre, n0, n1, n2, n3, n4, n5⟩ := y
  have h0 := hy.hi box (by simp [Lay.locs])
  have f1 := fun d => hf (ck + 1, d) (by show ck < ck + 1; omega)
  have f2 := fun d => hf (ck + 1 + 1, d) (by show ck < ck + 1 + 1; omega)
  have f3 := fun d => hf (ck + 1 + 1 + 1, d) (by show ck < ck + 1 + 1 + 1; omega)
  have e1 := fun d => freshF (l := box) (ck := ck) (c := ck + 1 + 1 + 1) (d := d) h0 (by omega)
  have e1g := fun d => freshG (l := box) (ck := ck) (c := ck + 1 + 1 + 1) (d := d) h0 (by omega)
  obtain ⟨r1, r2, r3, r4, r5, r6⟩ := id hr
  have nd := hy.nd
  simp only [Lay.locs, List.nodup_cons, List.mem_cons, List.not_mem_nil, or_false, not_or] at nd
  have a1 : ¬ box = n5 := by obtain ⟨⟨b0, b1, b2, b3, b4, b5⟩, -⟩ := nd; exact b5
  have a1' : ¬ n5 = box := fun q => a1 q.symm
  have h1 := hy.hi n5 (by simp [Lay.locs])
  have e2 := fun d => freshF (l := n5) (ck := ck) (c := ck + 1 + 1 + 1) (d := d) h1 (by omega)
  have e2g := fun d => freshG (l := n5) (ck := ck) (c := ck + 1 + 1 + 1) (d := d) h1 (by omega)
  have hty : H n5 = some (.arr r.complaints.length 6 fun i => encCo (el r.complaints i)) := hat.complaints
  rcases hy.pre with q | ⟨u1, u2, q⟩
  · have q : pre = [] := q
    subst q
    have hbx : H box = some (.cells [.int .i64 r.day, .msl n0 0 r.types.length, .msl n1 0 r.houses.length, .msl n2 0 r.flights.length, .msl n3 0 r.maps.length, .msl n4 0 r.offers.length, .msl n5 0 r.complaints.length, .int .i64 r.fund]) := hat.box
    show CallT _ H ck 182 [.ptr box 0, .agg (encEv e)] Kn
    refine CallT.less (CallT.inline hX Proofs.Tryz.func182 rfl foll (D := D182) (by kernel_rfl) (tab [(iceKey 3, iceC)]) (tab_ok ⟨ice_holds, trivial⟩) fun k1 => ?_)
    simp only [Proofs.Tryz.f182]
    rw [app_mkT (Nat.le_of_ble_eq_true rfl)]
    simp (maxSteps := 400000) only [go_sem, ↓upXAbsY, ↓upXAbsZa, ↓upXOffC, encEv, encStrs, encInts, hbx, f1, f2, f3, e1, e1g, hty, e2, e2g, a1, a1']
    exact ⟨by omega, by omega, by omega, by omega, ⟨by omega, by omega, row_ok rfl (ones_co ⟨el e.names 0, el e.names 1, el e.vals 0, el e.vals 1, [], -1⟩)⟩, _, put_complaints (r' := applyK levelE r e .complain) hy hat hf (by repeat (first | exact Chg.refl _ _ _ | refine Chg.mem ?_ (List.mem_cons_self ..) | refine Chg.mem ?_ (List.mem_cons_of_mem _ (List.mem_cons_self ..)) | refine Chg.new ?_ (by show ck < _; omega))) ((updH_same _ _ _).trans (congrArg (fun cs => some (AObj.cells cs)) (by simp only [regCells, applyK, List.length_append]; rfl)))
      ⟨_, (updH_ne a1').trans (updH_same _ _ _), objLe_snoc (f := encCo) (l := r.complaints) (x := ⟨el e.names 0, el e.names 1, el e.vals 0, el e.vals 1, [], -1⟩) rfl fun j hj => snocE rfl rfl hj⟩ rfl rfl rfl rfl rfl, hKn _ (by omega)⟩
  · have q : pre = [u1, u2] := q
    subst q
    have hbx : H box = some (.cells [u1, u2, .int .i64 r.day, .msl n0 0 r.types.length, .msl n1 0 r.houses.length, .msl n2 0 r.flights.length, .msl n3 0 r.maps.length, .msl n4 0 r.offers.length, .msl n5 0 r.complaints.length, .int .i64 r.fund]) := hat.box
    show CallT _ H ck 182 [.ptr box 2, .agg (encEv e)] Kn
    refine CallT.less (CallT.inline hX Proofs.Tryz.func182 rfl foll (D := D182) (by kernel_rfl) (tab [(iceKey 3, iceC)]) (tab_ok ⟨ice_holds, trivial⟩) fun k1 => ?_)
    simp only [Proofs.Tryz.f182]
    rw [app_mkT (Nat.le_of_ble_eq_true rfl)]
    simp (maxSteps := 400000) only [go_sem, ↓upXAbsY, ↓upXAbsZa, ↓upXOffC, encEv, encStrs, encInts, hbx, f1, f2, f3, e1, e1g, hty, e2, e2g, a1, a1']
    exact ⟨by omega, by omega, by omega, by omega, ⟨by omega, by omega, row_ok rfl (ones_co ⟨el e.names 0, el e.names 1, el e.vals 0, el e.vals 1, [], -1⟩)⟩, _, put_complaints (r' := applyK levelE r e .complain) hy hat hf (by repeat (first | exact Chg.refl _ _ _ | refine Chg.mem ?_ (List.mem_cons_self ..) | refine Chg.mem ?_ (List.mem_cons_of_mem _ (List.mem_cons_self ..)) | refine Chg.new ?_ (by show ck < _; omega))) ((updH_same _ _ _).trans (congrArg (fun cs => some (AObj.cells cs)) (by simp only [regCells, applyK, List.length_append]; rfl)))
      ⟨_, (updH_ne a1').trans (updH_same _ _ _), objLe_snoc (f := encCo) (l := r.complaints) (x := ⟨el e.names 0, el e.names 1, el e.vals 0, el e.vals 1, [], -1⟩) rfl fun j hj => snocE rfl rfl hj⟩ rfl rfl rfl rfl rfl, hKn _ (by omega)⟩


theorem fa8_call {Γ : FuncId → Option Contract} {r0 : Option Nat} {k0 : K} {H : Heap} {ck : Nat} {Kn : V → Heap → Nat → Prop} (hX : (⟨Proofs.Tryz.prog, Γ, G0, r0, k0⟩ : Cx).Ok) {y : Lay} {r : Reg} {e : Ev} (hat : RegAt H y r) (hy : LayOk y ck) (hf : ∀ l : Loc, ck < l.1 → H l = none)
    (hr : RL r) (hv : e.vals.length = 2) (hb : 0 ≤ el e.vals 1 ∧ el e.vals 1 ≤ 999999999) (hfd : 0 ≤ r.fund ∧ r.fund ≤ 1000000000000) (hKn : ∀ ck', ck ≤ ck' → Kn (.tup []) (putReg H y (applyK levelE r e .fund)) ck') :
    CallT ⟨Proofs.Tryz.prog, Γ, G0, r0, k0⟩ H ck 178 [.ptr y.box y.off, .agg (encEv e)] Kn := by
  obtain ⟨box, pre, n0, n1, n2, n3, n4, n5⟩ := y
  have h0 := hy.hi box (by simp [Lay.locs])
  have f1 := fun d => hf (ck + 1, d) (by show ck < ck + 1; omega)
  have f2 := fun d => hf (ck + 1 + 1, d) (by show ck < ck + 1 + 1; omega)
  have f3 := fun d => hf (ck + 1 + 1 + 1, d) (by show ck < ck + 1 + 1 + 1; omega)
  have e1 := fun d => freshF (l := box) (ck := ck) (c := ck + 1 + 1 + 1) (d := d) h0 (by omega)
  have e1g := fun d => freshG (l := box) (ck := ck) (c := ck + 1 + 1 + 1) (d := d) h0 (by omega)
  obtain ⟨r1, r2, r3, r4, r5, r6⟩ := id hr
  rcases hy.pre with q | ⟨u1, u2, q⟩
  · have q : pre = [] := q
    subst q
    have hbx : H box = some (.cells [.int .i64 r.day, .msl n0 0 r.types.length, .msl n1 0 r.houses.length, .msl n2 0 r.flights.length, .msl n3 0 r.maps.length, .msl n4 0 r.offers.length, .msl n5 0 r.complaints.length, .int .i64 r.fund]) := hat.box
    show CallT _ H ck 178 [.ptr box 0, .agg (encEv e)] Kn
    refine CallT.less (CallT.inline hX Proofs.Tryz.func178 rfl foll (D := D178) (by kernel_rfl) (tab [(iceKey 3, iceC)]) (tab_ok ⟨ice_holds, trivial⟩) fun k1 => ?_)
    simp only [Proofs.Tryz.f178]
    rw [app_mkT (Nat.le_of_ble_eq_true rfl)]
    simp (maxSteps := 400000) only [go_sem, ↓upXAbsY, ↓upXAbsZa, ↓upXOffC, encEv, encStrs, encInts, hbx, f1, f2, f3, e1, e1g]
    exact ⟨by omega, inK_of (by omega) (by omega), _, put_box (r' := applyK levelE r e .fund) hy hat hf (by repeat (first | exact Chg.refl _ _ _ | refine Chg.mem ?_ (List.mem_cons_self ..) | refine Chg.mem ?_ (List.mem_cons_of_mem _ (List.mem_cons_self ..)) | refine Chg.new ?_ (by show ck < _; omega))) ((updH_same _ _ _).trans (congrArg (fun cs => some (AObj.cells cs)) (by simp only [regCells, applyK, List.length_append]; rfl))) rfl rfl rfl rfl rfl rfl, hKn _ (by omega)⟩
  · have q : pre = [u1, u2] := q
    subst q
    have hbx : H box = some (.cells [u1, u2, .int .i64 r.day, .msl n0 0 r.types.length, .msl n1 0 r.houses.length, .msl n2 0 r.flights.length, .msl n3 0 r.maps.length, .msl n4 0 r.offers.length, .msl n5 0 r.complaints.length, .int .i64 r.fund]) := hat.box
    show CallT _ H ck 178 [.ptr box 2, .agg (encEv e)] Kn
    refine CallT.less (CallT.inline hX Proofs.Tryz.func178 rfl foll (D := D178) (by kernel_rfl) (tab [(iceKey 3, iceC)]) (tab_ok ⟨ice_holds, trivial⟩) fun k1 => ?_)
    simp only [Proofs.Tryz.f178]
    rw [app_mkT (Nat.le_of_ble_eq_true rfl)]
    simp (maxSteps := 400000) only [go_sem, ↓upXAbsY, ↓upXAbsZa, ↓upXOffC, encEv, encStrs, encInts, hbx, f1, f2, f3, e1, e1g]
    exact ⟨by omega, inK_of (by omega) (by omega), _, put_box (r' := applyK levelE r e .fund) hy hat hf (by repeat (first | exact Chg.refl _ _ _ | refine Chg.mem ?_ (List.mem_cons_self ..) | refine Chg.mem ?_ (List.mem_cons_of_mem _ (List.mem_cons_self ..)) | refine Chg.new ?_ (by show ck < _; omega))) ((updH_same _ _ _).trans (congrArg (fun cs => some (AObj.cells cs)) (by simp only [regCells, applyK, List.length_append]; rfl))) rfl rfl rfl rfl rfl rfl, hKn _ (by omega)⟩


end Go.Fly.Tryz
