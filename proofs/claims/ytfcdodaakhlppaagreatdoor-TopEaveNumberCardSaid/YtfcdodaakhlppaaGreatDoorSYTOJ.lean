/- The office: what events change in place. -/
import Derived.Test.YtfcdodaakhlppaaGreatDoorSYTOI
set_option linter.unusedSimpArgs false
set_option linter.unusedVariables false
set_option maxRecDepth 100000
set_option maxHeartbeats 1000000
namespace Go.Fly.Tryz
open Go Off

theorem rowMod {α : Type} {p i : Nat} {a b a' b' : α} (h1 : i = p → a = a') (h2 : ¬ i = p → b = b') : (if i = p then a else b) = if i = p then a' else b' := by
  split
  · exact h1 ‹_›
  · exact h2 ‹_›

theorem fa4_call {Γ : FuncId → Option Contract} {r0 : Option Nat} {k0 : K} {H : Heap} {ck : Nat} {Kn : V → Heap → Nat → Prop} (hX : (⟨Proofs.Tryz.prog, Γ, G0, r0, k0⟩ : Cx).Ok) {y : Lay} {r : Reg} {e : Ev} (hat : RegAt H y r) (hy : LayOk y ck) (hf : ∀ l : Loc, ck < l.1 → H l = none)
    (hr : RL r) (hv : e.vals.length = 2) (hn : e.names.length = 1) (hs : el e.names 0 ∈ r.namesOf 102) (hKn : ∀ ck', ck ≤ ck' → Kn (.tup []) (putReg H y (applyK levelE r e .match_)) ck') :
    CallT ⟨Proofs.Tryz.prog, Γ, G0, r0, k0⟩ H ck 166 [.ptr y.box y.off, .agg (encEv e)] Kn := by
  have hyo := hy
  have hato := hat
  obtain ⟨box, pre, n0, n1, n2, n3, n4, n5⟩ := y
  have h0 := hy.hi box (by simp [Lay.locs])
  have h1 := hy.hi n2 (by simp [Lay.locs])
  have nd := hy.nd
  simp only [Lay.locs, List.nodup_cons, List.mem_cons, List.not_mem_nil, or_false, not_or] at nd
  have a1 : ¬ box = n2 := by obtain ⟨⟨b0, b1, b2, b3, b4, b5⟩, -⟩ := nd; exact b2
  have a1' : ¬ n2 = box := fun q => a1 q.symm
  have hty : H n2 = some (.arr r.flights.length 5 fun i => encFl (el r.flights i)) := hat.flights
  have hlt : place (r.namesOf 102) (el e.names 0) < r.flights.length := place_lt_of (f := Fl.name) hs
  rcases hy.pre with q | ⟨u1, u2, q⟩
  · have q : pre = [] := q
    subst q
    have hbx : H box = some (.cells [.int .i64 r.day, .msl n0 0 r.types.length, .msl n1 0 r.houses.length, .msl n2 0 r.flights.length, .msl n3 0 r.maps.length, .msl n4 0 r.offers.length, .msl n5 0 r.complaints.length, .int .i64 r.fund]) := hat.box
    show CallT _ H ck 166 [.ptr box 0, .agg (encEv e)] Kn
    refine CallT.less (CallT.inline hX Proofs.Tryz.func166 rfl foll (D := D166) (by kernel_rfl) (tab [(iceKey 3, iceC), (inlKey 9, iceC)]) (tab_ok ⟨ice_holds, ice_holds, trivial⟩) fun k1 => ?_)
    simp only [Proofs.Tryz.f166]
    rw [app_mkT (Nat.le_of_ble_eq_true rfl)]
    simp (maxSteps := 400000) only [go_sem, ↓upXAbsY, ↓upXAbsZa, ↓upXOffC, encEv, encStrs, encInts, hbx, hty, a1, a1']
    refine ⟨by omega, RdQ.of (.eptr n2 r.flights.length 5 (place (r.namesOf 102) (el e.names 0)) 0) rfl rfl rfl en164 (.inr ⟨_, _, _, _, _, rfl, .inl (by show n2.1 < ck + 1 + 1 + 1; omega)⟩) (fun hX2 => flight_call hX2 hato (hyo.mono (ck' := ck + 1 + 1 + 1) (by omega)) (fun l hl => hf l (by have : ck + 1 + 1 + 1 < l.1 := hl; omega)) hr hs fun ck' _ => ⟨rfl, rfl⟩) ?_⟩
    simp (maxSteps := 400000) only [go_sem, ↓upXAbsY, ↓upXAbsZa, ↓upXOffC, encEv, encStrs, encInts, hbx, hty, a1, a1', encFl]
    exact ⟨by omega, _, put_flights (r' := applyK levelE r e .match_) hyo hato hf (by repeat (first | exact Chg.refl _ _ _ | refine Chg.mem ?_ (List.mem_cons_self ..) | refine Chg.mem ?_ (List.mem_cons_of_mem _ (List.mem_cons_self ..)) | refine Chg.new ?_ (by show ck < _; omega))) ((updH_ne a1).trans (hbx.trans (congrArg (fun cs => some (AObj.cells cs)) (by simp only [regCells, applyK, List.length_modify]; rfl))))
      ⟨_, updH_same _ _ _, objLe_mod (f := encFl) (l := r.flights) (p := place (r.namesOf 102) (el e.names 0)) (h := fun x => { x with heard := e.vl 1 }) fun i hi => rowMod (fun q => by subst q; rfl) (fun q => rfl)⟩ rfl rfl rfl rfl rfl, hKn _ (by omega)⟩
  · have q : pre = [u1, u2] := q
    subst q
    have hbx : H box = some (.cells [u1, u2, .int .i64 r.day, .msl n0 0 r.types.length, .msl n1 0 r.houses.length, .msl n2 0 r.flights.length, .msl n3 0 r.maps.length, .msl n4 0 r.offers.length, .msl n5 0 r.complaints.length, .int .i64 r.fund]) := hat.box
    show CallT _ H ck 166 [.ptr box 2, .agg (encEv e)] Kn
    refine CallT.less (CallT.inline hX Proofs.Tryz.func166 rfl foll (D := D166) (by kernel_rfl) (tab [(iceKey 3, iceC), (inlKey 9, iceC)]) (tab_ok ⟨ice_holds, ice_holds, trivial⟩) fun k1 => ?_)
    simp only [Proofs.Tryz.f166]
    rw [app_mkT (Nat.le_of_ble_eq_true rfl)]
    simp (maxSteps := 400000) only [go_sem, ↓upXAbsY, ↓upXAbsZa, ↓upXOffC, encEv, encStrs, encInts, hbx, hty, a1, a1']
    refine ⟨by omega, RdQ.of (.eptr n2 r.flights.length 5 (place (r.namesOf 102) (el e.names 0)) 0) rfl rfl rfl en164 (.inr ⟨_, _, _, _, _, rfl, .inl (by show n2.1 < ck + 1 + 1 + 1; omega)⟩) (fun hX2 => flight_call hX2 hato (hyo.mono (ck' := ck + 1 + 1 + 1) (by omega)) (fun l hl => hf l (by have : ck + 1 + 1 + 1 < l.1 := hl; omega)) hr hs fun ck' _ => ⟨rfl, rfl⟩) ?_⟩
    simp (maxSteps := 400000) only [go_sem, ↓upXAbsY, ↓upXAbsZa, ↓upXOffC, encEv, encStrs, encInts, hbx, hty, a1, a1', encFl]
    exact ⟨by omega, _, put_flights (r' := applyK levelE r e .match_) hyo hato hf (by repeat (first | exact Chg.refl _ _ _ | refine Chg.mem ?_ (List.mem_cons_self ..) | refine Chg.mem ?_ (List.mem_cons_of_mem _ (List.mem_cons_self ..)) | refine Chg.new ?_ (by show ck < _; omega))) ((updH_ne a1).trans (hbx.trans (congrArg (fun cs => some (AObj.cells cs)) (by simp only [regCells, applyK, List.length_modify]; rfl))))
      ⟨_, updH_same _ _ _, objLe_mod (f := encFl) (l := r.flights) (p := place (r.namesOf 102) (el e.names 0)) (h := fun x => { x with heard := e.vl 1 }) fun i hi => rowMod (fun q => by subst q; rfl) (fun q => rfl)⟩ rfl rfl rfl rfl rfl, hKn _ (by omega)⟩


theorem fa5_call {Γ : FuncId → Option Contract} {r0 : Option Nat} {k0 : K} {H : Heap} {ck : Nat} {Kn : V → Heap → Nat → Prop} (hX : (⟨Proofs.Tryz.prog, Γ, G0, r0, k0⟩ : Cx).Ok) {y : Lay} {r : Reg} {e : Ev} (hat : RegAt H y r) (hy : LayOk y ck) (hf : ∀ l : Loc, ck < l.1 → H l = none)
    (hr : RL r) (hv : e.vals.length = 2) (hn : e.names.length = 1) (hs : el e.names 0 ∈ r.namesOf 116) (hKn : ∀ ck', ck ≤ ck' → Kn (.tup []) (putReg H y (applyK levelE r e .correct)) ck') :
    CallT ⟨Proofs.Tryz.prog, Γ, G0, r0, k0⟩ H ck 169 [.ptr y.box y.off, .agg (encEv e)] Kn := by
  have hyo := hy
  have hato := hat
  obtain ⟨box, pre, n0, n1, n2, n3, n4, n5⟩ := y
  have h0 := hy.hi box (by simp [Lay.locs])
  have h1 := hy.hi n0 (by simp [Lay.locs])
  have nd := hy.nd
  simp only [Lay.locs, List.nodup_cons, List.mem_cons, List.not_mem_nil, or_false, not_or] at nd
  have a1 : ¬ box = n0 := by obtain ⟨⟨b0, b1, b2, b3, b4, b5⟩, -⟩ := nd; exact b0
  have a1' : ¬ n0 = box := fun q => a1 q.symm
  have hty : H n0 = some (.arr r.types.length 3 fun i => encTy (el r.types i)) := hat.types
  have hlt : place (r.namesOf 116) (el e.names 0) < r.types.length := place_lt_of (f := Ty.name) hs
  rcases hy.pre with q | ⟨u1, u2, q⟩
  · have q : pre = [] := q
    subst q
    have hbx : H box = some (.cells [.int .i64 r.day, .msl n0 0 r.types.length, .msl n1 0 r.houses.length, .msl n2 0 r.flights.length, .msl n3 0 r.maps.length, .msl n4 0 r.offers.length, .msl n5 0 r.complaints.length, .int .i64 r.fund]) := hat.box
    show CallT _ H ck 169 [.ptr box 0, .agg (encEv e)] Kn
    refine CallT.less (CallT.inline hX Proofs.Tryz.func169 rfl foll (D := D169) (by kernel_rfl) (tab [(iceKey 3, iceC), (inlKey 9, iceC)]) (tab_ok ⟨ice_holds, ice_holds, trivial⟩) fun k1 => ?_)
    simp only [Proofs.Tryz.f169]
    rw [app_mkT (Nat.le_of_ble_eq_true rfl)]
    simp (maxSteps := 400000) only [go_sem, ↓upXAbsY, ↓upXAbsZa, ↓upXOffC, encEv, encStrs, encInts, hbx, hty, a1, a1']
    refine ⟨by omega, RdQ.of (.eptr n0 r.types.length 3 (place (r.namesOf 116) (el e.names 0)) 0) rfl rfl rfl en170 (.inr ⟨_, _, _, _, _, rfl, .inl (by show n0.1 < ck + 1 + 1 + 1; omega)⟩) (fun hX2 => kind_call hX2 hato (hyo.mono (ck' := ck + 1 + 1 + 1) (by omega)) (fun l hl => hf l (by have : ck + 1 + 1 + 1 < l.1 := hl; omega)) hr hs fun ck' _ => ⟨rfl, rfl⟩) ?_⟩
    simp (maxSteps := 400000) only [go_sem, ↓upXAbsY, ↓upXAbsZa, ↓upXOffC, encEv, encStrs, encInts, hbx, hty, a1, a1', encTy]
    exact ⟨by omega, _, put_types (r' := applyK levelE r e .correct) hyo hato hf (by repeat (first | exact Chg.refl _ _ _ | refine Chg.mem ?_ (List.mem_cons_self ..) | refine Chg.mem ?_ (List.mem_cons_of_mem _ (List.mem_cons_self ..)) | refine Chg.new ?_ (by show ck < _; omega))) ((updH_ne a1).trans (hbx.trans (congrArg (fun cs => some (AObj.cells cs)) (by simp only [regCells, applyK, List.length_modify]; rfl))))
      ⟨_, updH_same _ _ _, objLe_mod (f := encTy) (l := r.types) (p := place (r.namesOf 116) (el e.names 0)) (h := fun x => { x with factor := e.vl 1 }) fun i hi => rowMod (fun q => by subst q; rfl) (fun q => rfl)⟩ rfl rfl rfl rfl rfl, hKn _ (by omega)⟩
  · have q : pre = [u1, u2] := q
    subst q
    have hbx : H box = some (.cells [u1, u2, .int .i64 r.day, .msl n0 0 r.types.length, .msl n1 0 r.houses.length, .msl n2 0 r.flights.length, .msl n3 0 r.maps.length, .msl n4 0 r.offers.length, .msl n5 0 r.complaints.length, .int .i64 r.fund]) := hat.box
    show CallT _ H ck 169 [.ptr box 2, .agg (encEv e)] Kn
    refine CallT.less (CallT.inline hX Proofs.Tryz.func169 rfl foll (D := D169) (by kernel_rfl) (tab [(iceKey 3, iceC), (inlKey 9, iceC)]) (tab_ok ⟨ice_holds, ice_holds, trivial⟩) fun k1 => ?_)
    simp only [Proofs.Tryz.f169]
    rw [app_mkT (Nat.le_of_ble_eq_true rfl)]
    simp (maxSteps := 400000) only [go_sem, ↓upXAbsY, ↓upXAbsZa, ↓upXOffC, encEv, encStrs, encInts, hbx, hty, a1, a1']
    refine ⟨by omega, RdQ.of (.eptr n0 r.types.length 3 (place (r.namesOf 116) (el e.names 0)) 0) rfl rfl rfl en170 (.inr ⟨_, _, _, _, _, rfl, .inl (by show n0.1 < ck + 1 + 1 + 1; omega)⟩) (fun hX2 => kind_call hX2 hato (hyo.mono (ck' := ck + 1 + 1 + 1) (by omega)) (fun l hl => hf l (by have : ck + 1 + 1 + 1 < l.1 := hl; omega)) hr hs fun ck' _ => ⟨rfl, rfl⟩) ?_⟩
    simp (maxSteps := 400000) only [go_sem, ↓upXAbsY, ↓upXAbsZa, ↓upXOffC, encEv, encStrs, encInts, hbx, hty, a1, a1', encTy]
    exact ⟨by omega, _, put_types (r' := applyK levelE r e .correct) hyo hato hf (by repeat (first | exact Chg.refl _ _ _ | refine Chg.mem ?_ (List.mem_cons_self ..) | refine Chg.mem ?_ (List.mem_cons_of_mem _ (List.mem_cons_self ..)) | refine Chg.new ?_ (by show ck < _; omega))) ((updH_ne a1).trans (hbx.trans (congrArg (fun cs => some (AObj.cells cs)) (by simp only [regCells, applyK, List.length_modify]; rfl))))
      ⟨_, updH_same _ _ _, objLe_mod (f := encTy) (l := r.types) (p := place (r.namesOf 116) (el e.names 0)) (h := fun x => { x with factor := e.vl 1 }) fun i hi => rowMod (fun q => by subst q; rfl) (fun q => rfl)⟩ rfl rfl rfl rfl rfl, hKn _ (by omega)⟩


theorem fa12_call {Γ : FuncId → Option Contract} {r0 : Option Nat} {k0 : K} {H : Heap} {ck : Nat} {Kn : V → Heap → Nat → Prop} (hX : (⟨Proofs.Tryz.prog, Γ, G0, r0, k0⟩ : Cx).Ok) {y : Lay} {r : Reg} {e : Ev} (hat : RegAt H y r) (hy : LayOk y ck) (hf : ∀ l : Loc, ck < l.1 → H l = none)
    (hr : RL r) (hv : e.vals.length = 1) (hn : e.names.length = 1) (hs : el e.names 0 ∈ r.namesOf 99) (hKn : ∀ ck', ck ≤ ck' → Kn (.tup []) (putReg H y (applyK levelE r e .dismiss)) ck') :
    CallT ⟨Proofs.Tryz.prog, Γ, G0, r0, k0⟩ H ck 187 [.ptr y.box y.off, .agg (encEv e)] Kn := by
  have hyo := hy
  have hato := hat
  obtain ⟨box, pre, n0, n1, n2, n3, n4, n5⟩ := y
  have h0 := hy.hi box (by simp [Lay.locs])
  have h1 := hy.hi n5 (by simp [Lay.locs])
  have nd := hy.nd
  simp only [Lay.locs, List.nodup_cons, List.mem_cons, List.not_mem_nil, or_false, not_or] at nd
  have a1 : ¬ box = n5 := by obtain ⟨⟨b0, b1, b2, b3, b4, b5⟩, -⟩ := nd; exact b5
  have a1' : ¬ n5 = box := fun q => a1 q.symm
  have hty : H n5 = some (.arr r.complaints.length 6 fun i => encCo (el r.complaints i)) := hat.complaints
  have hlt : place (r.namesOf 99) (el e.names 0) < r.complaints.length := place_lt_of (f := Co.name) hs
  rcases hy.pre with q | ⟨u1, u2, q⟩
  · have q : pre = [] := q
    subst q
    have hbx : H box = some (.cells [.int .i64 r.day, .msl n0 0 r.types.length, .msl n1 0 r.houses.length, .msl n2 0 r.flights.length, .msl n3 0 r.maps.length, .msl n4 0 r.offers.length, .msl n5 0 r.complaints.length, .int .i64 r.fund]) := hat.box
    show CallT _ H ck 187 [.ptr box 0, .agg (encEv e)] Kn
    refine CallT.less (CallT.inline hX Proofs.Tryz.func187 rfl foll (D := D187) (by kernel_rfl) (tab [(iceKey 3, iceC), (inlKey 9, iceC)]) (tab_ok ⟨ice_holds, ice_holds, trivial⟩) fun k1 => ?_)
    simp only [Proofs.Tryz.f187]
    rw [app_mkT (Nat.le_of_ble_eq_true rfl)]
    simp (maxSteps := 400000) only [go_sem, ↓upXAbsY, ↓upXAbsZa, ↓upXOffC, encEv, encStrs, encInts, hbx, hty, a1, a1']
    refine ⟨by omega, RdQ.of (.eptr n5 r.complaints.length 6 (place (r.namesOf 99) (el e.names 0)) 0) rfl rfl rfl en137 (.inr ⟨_, _, _, _, _, rfl, .inl (by show n5.1 < ck + 1 + 1 + 1; omega)⟩) (fun hX2 => complaint_call hX2 hato (hyo.mono (ck' := ck + 1 + 1 + 1) (by omega)) (fun l hl => hf l (by have : ck + 1 + 1 + 1 < l.1 := hl; omega)) hr hs fun ck' _ => ⟨rfl, rfl⟩) ?_⟩
    simp (maxSteps := 400000) only [go_sem, ↓upXAbsY, ↓upXAbsZa, ↓upXOffC, encEv, encStrs, encInts, hbx, hty, a1, a1', encCo]
    exact ⟨by omega, _, put_complaints (r' := applyK levelE r e .dismiss) hyo hato hf (by repeat (first | exact Chg.refl _ _ _ | refine Chg.mem ?_ (List.mem_cons_self ..) | refine Chg.mem ?_ (List.mem_cons_of_mem _ (List.mem_cons_self ..)) | refine Chg.new ?_ (by show ck < _; omega))) ((updH_ne a1).trans (hbx.trans (congrArg (fun cs => some (AObj.cells cs)) (by simp only [regCells, applyK, List.length_modify]; rfl))))
      ⟨_, updH_same _ _ _, objLe_mod (f := encCo) (l := r.complaints) (p := place (r.namesOf 99) (el e.names 0)) (h := fun x => { x with answered := e.vl 0 }) fun i hi => rowMod (fun q => by subst q; rfl) (fun q => rfl)⟩ rfl rfl rfl rfl rfl, hKn _ (by omega)⟩
  · have q : pre = [u1, u2] := q
    subst q
    have hbx : H box = some (.cells [u1, u2, .int .i64 r.day, .msl n0 0 r.types.length, .msl n1 0 r.houses.length, .msl n2 0 r.flights.length, .msl n3 0 r.maps.length, .msl n4 0 r.offers.length, .msl n5 0 r.complaints.length, .int .i64 r.fund]) := hat.box
    show CallT _ H ck 187 [.ptr box 2, .agg (encEv e)] Kn
    refine CallT.less (CallT.inline hX Proofs.Tryz.func187 rfl foll (D := D187) (by kernel_rfl) (tab [(iceKey 3, iceC), (inlKey 9, iceC)]) (tab_ok ⟨ice_holds, ice_holds, trivial⟩) fun k1 => ?_)
    simp only [Proofs.Tryz.f187]
    rw [app_mkT (Nat.le_of_ble_eq_true rfl)]
    simp (maxSteps := 400000) only [go_sem, ↓upXAbsY, ↓upXAbsZa, ↓upXOffC, encEv, encStrs, encInts, hbx, hty, a1, a1']
    refine ⟨by omega, RdQ.of (.eptr n5 r.complaints.length 6 (place (r.namesOf 99) (el e.names 0)) 0) rfl rfl rfl en137 (.inr ⟨_, _, _, _, _, rfl, .inl (by show n5.1 < ck + 1 + 1 + 1; omega)⟩) (fun hX2 => complaint_call hX2 hato (hyo.mono (ck' := ck + 1 + 1 + 1) (by omega)) (fun l hl => hf l (by have : ck + 1 + 1 + 1 < l.1 := hl; omega)) hr hs fun ck' _ => ⟨rfl, rfl⟩) ?_⟩
    simp (maxSteps := 400000) only [go_sem, ↓upXAbsY, ↓upXAbsZa, ↓upXOffC, encEv, encStrs, encInts, hbx, hty, a1, a1', encCo]
    exact ⟨by omega, _, put_complaints (r' := applyK levelE r e .dismiss) hyo hato hf (by repeat (first | exact Chg.refl _ _ _ | refine Chg.mem ?_ (List.mem_cons_self ..) | refine Chg.mem ?_ (List.mem_cons_of_mem _ (List.mem_cons_self ..)) | refine Chg.new ?_ (by show ck < _; omega))) ((updH_ne a1).trans (hbx.trans (congrArg (fun cs => some (AObj.cells cs)) (by simp only [regCells, applyK, List.length_modify]; rfl))))
      ⟨_, updH_same _ _ _, objLe_mod (f := encCo) (l := r.complaints) (p := place (r.namesOf 99) (el e.names 0)) (h := fun x => { x with answered := e.vl 0 }) fun i hi => rowMod (fun q => by subst q; rfl) (fun q => rfl)⟩ rfl rfl rfl rfl rfl, hKn _ (by omega)⟩


theorem fa9_call {Γ : FuncId → Option Contract} {r0 : Option Nat} {k0 : K} {H : Heap} {ck : Nat} {Kn : V → Heap → Nat → Prop} (hX : (⟨Proofs.Tryz.prog, Γ, G0, r0, k0⟩ : Cx).Ok) {y : Lay} {r : Reg} {e : Ev} (hat : RegAt H y r) (hy : LayOk y ck) (hf : ∀ l : Loc, ck < l.1 → H l = none)
    (hr : RL r) (hv : e.vals.length = 1) (hn : e.names.length = 1) (hs : el e.names 0 ∈ r.namesOf 111) (hfd : 0 ≤ r.fund ∧ r.fund ≤ 1000000000000) (ham : 0 ≤ (el r.offers (place (r.namesOf 111) (el e.names 0))).amount ∧ (el r.offers (place (r.namesOf 111) (el e.names 0))).amount ≤ 1000000000000) (hKn : ∀ ck', ck ≤ ck' → Kn (.tup []) (putReg H y (applyK levelE r e .pay)) ck') :
    CallT ⟨Proofs.Tryz.prog, Γ, G0, r0, k0⟩ H ck 180 [.ptr y.box y.off, .agg (encEv e)] Kn := by
  have hyo := hy
  have hato := hat
  obtain ⟨box, pre, n0, n1, n2, n3, n4, n5⟩ := y
  have h0 := hy.hi box (by simp [Lay.locs])
  have h1 := hy.hi n4 (by simp [Lay.locs])
  have nd := hy.nd
  simp only [Lay.locs, List.nodup_cons, List.mem_cons, List.not_mem_nil, or_false, not_or] at nd
  have a1 : ¬ box = n4 := by obtain ⟨⟨b0, b1, b2, b3, b4, b5⟩, -⟩ := nd; exact b4
  have a1' : ¬ n4 = box := fun q => a1 q.symm
  have hty : H n4 = some (.arr r.offers.length 4 fun i => encOf (el r.offers i)) := hat.offers
  have hlt : place (r.namesOf 111) (el e.names 0) < r.offers.length := place_lt_of (f := Of.name) hs
  rcases hy.pre with q | ⟨u1, u2, q⟩
  · have q : pre = [] := q
    subst q
    have hbx : H box = some (.cells [.int .i64 r.day, .msl n0 0 r.types.length, .msl n1 0 r.houses.length, .msl n2 0 r.flights.length, .msl n3 0 r.maps.length, .msl n4 0 r.offers.length, .msl n5 0 r.complaints.length, .int .i64 r.fund]) := hat.box
    show CallT _ H ck 180 [.ptr box 0, .agg (encEv e)] Kn
    refine CallT.less (CallT.inline hX Proofs.Tryz.func180 rfl foll (D := D180) (by kernel_rfl) (tab [(iceKey 3, iceC), (inlKey 10, iceC)]) (tab_ok ⟨ice_holds, ice_holds, trivial⟩) fun k1 => ?_)
    simp only [Proofs.Tryz.f180]
    rw [app_mkT (Nat.le_of_ble_eq_true rfl)]
    simp (maxSteps := 400000) only [go_sem, ↓upXAbsY, ↓upXAbsZa, ↓upXOffC, encEv, encStrs, encInts, hbx, hty, a1, a1']
    refine ⟨by omega, .inl fun hX2 => offer_call hX2 hato (hyo.mono (ck' := ck + 1 + 1 + 1) (by omega)) (fun l hl => hf l (by have : ck + 1 + 1 + 1 < l.1 := hl; omega)) hr hs fun ck2 hck2 => ?_⟩
    have f4 := fun d => hf (ck2 + 1, d) (by show ck < ck2 + 1; omega)
    simp (maxSteps := 400000) only [go_sem, ↓upXAbsY, ↓upXAbsZa, ↓upXOffC, encEv, encStrs, encInts, hbx, hty, a1, a1', encOf]
    exact ⟨inK_of (by omega) (by omega), _, put_offers (r' := applyK levelE r e .pay) hyo hato hf (by repeat (first | exact Chg.refl _ _ _ | refine Chg.mem ?_ (List.mem_cons_self ..) | refine Chg.mem ?_ (List.mem_cons_of_mem _ (List.mem_cons_self ..)) | refine Chg.new ?_ (by show ck < _; omega))) ((updH_same _ _ _).trans (congrArg (fun cs => some (AObj.cells cs)) (by simp only [regCells, applyK, List.length_modify]; rfl)))
      ⟨_, (updH_ne a1').trans (updH_same _ _ _), objLe_mod (f := encOf) (l := r.offers) (p := place (r.namesOf 111) (el e.names 0)) (h := fun x => { x with paid := true }) fun i hi => rowMod (fun q => by subst q; rfl) (fun q => rfl)⟩ rfl rfl rfl rfl rfl, hKn _ (by omega)⟩
  · have q : pre = [u1, u2] := q
    subst q
    have hbx : H box = some (.cells [u1, u2, .int .i64 r.day, .msl n0 0 r.types.length, .msl n1 0 r.houses.length, .msl n2 0 r.flights.length, .msl n3 0 r.maps.length, .msl n4 0 r.offers.length, .msl n5 0 r.complaints.length, .int .i64 r.fund]) := hat.box
    show CallT _ H ck 180 [.ptr box 2, .agg (encEv e)] Kn
    refine CallT.less (CallT.inline hX Proofs.Tryz.func180 rfl foll (D := D180) (by kernel_rfl) (tab [(iceKey 3, iceC), (inlKey 10, iceC)]) (tab_ok ⟨ice_holds, ice_holds, trivial⟩) fun k1 => ?_)
    simp only [Proofs.Tryz.f180]
    rw [app_mkT (Nat.le_of_ble_eq_true rfl)]
    simp (maxSteps := 400000) only [go_sem, ↓upXAbsY, ↓upXAbsZa, ↓upXOffC, encEv, encStrs, encInts, hbx, hty, a1, a1']
    refine ⟨by omega, .inl fun hX2 => offer_call hX2 hato (hyo.mono (ck' := ck + 1 + 1 + 1) (by omega)) (fun l hl => hf l (by have : ck + 1 + 1 + 1 < l.1 := hl; omega)) hr hs fun ck2 hck2 => ?_⟩
    have f4 := fun d => hf (ck2 + 1, d) (by show ck < ck2 + 1; omega)
    simp (maxSteps := 400000) only [go_sem, ↓upXAbsY, ↓upXAbsZa, ↓upXOffC, encEv, encStrs, encInts, hbx, hty, a1, a1', encOf]
    exact ⟨inK_of (by omega) (by omega), _, put_offers (r' := applyK levelE r e .pay) hyo hato hf (by repeat (first | exact Chg.refl _ _ _ | refine Chg.mem ?_ (List.mem_cons_self ..) | refine Chg.mem ?_ (List.mem_cons_of_mem _ (List.mem_cons_self ..)) | refine Chg.new ?_ (by show ck < _; omega))) ((updH_same _ _ _).trans (congrArg (fun cs => some (AObj.cells cs)) (by simp only [regCells, applyK, List.length_modify]; rfl)))
      ⟨_, (updH_ne a1').trans (updH_same _ _ _), objLe_mod (f := encOf) (l := r.offers) (p := place (r.namesOf 111) (el e.names 0)) (h := fun x => { x with paid := true }) fun i hi => rowMod (fun q => by subst q; rfl) (fun q => rfl)⟩ rfl rfl rfl rfl rfl, hKn _ (by omega)⟩


theorem fa11_call {Γ : FuncId → Option Contract} {r0 : Option Nat} {k0 : K} {H : Heap} {ck : Nat} {Kn : V → Heap → Nat → Prop} (hX : (⟨Proofs.Tryz.prog, Γ, G0, r0, k0⟩ : Cx).Ok) {y : Lay} {r : Reg} {e : Ev} (hat : RegAt H y r) (hy : LayOk y ck) (hf : ∀ l : Loc, ck < l.1 → H l = none)
    (hr : RL r) (hv : e.vals.length = 1) (hn : e.names.length = 2) (hs : el e.names 0 ∈ r.namesOf 99) (hKn : ∀ ck', ck ≤ ck' → Kn (.tup []) (putReg H y (applyK levelE r e .answer)) ck') :
    CallT ⟨Proofs.Tryz.prog, Γ, G0, r0, k0⟩ H ck 184 [.ptr y.box y.off, .agg (encEv e)] Kn := by
  have hyo := hy
  have hato := hat
  obtain ⟨box, pre, n0, n1, n2, n3, n4, n5⟩ := y
  have h0 := hy.hi box (by simp [Lay.locs])
  have h1 := hy.hi n5 (by simp [Lay.locs])
  have nd := hy.nd
  simp only [Lay.locs, List.nodup_cons, List.mem_cons, List.not_mem_nil, or_false, not_or] at nd
  have a1 : ¬ box = n5 := by obtain ⟨⟨b0, b1, b2, b3, b4, b5⟩, -⟩ := nd; exact b5
  have a1' : ¬ n5 = box := fun q => a1 q.symm
  have hty : H n5 = some (.arr r.complaints.length 6 fun i => encCo (el r.complaints i)) := hat.complaints
  have hlt : place (r.namesOf 99) (el e.names 0) < r.complaints.length := place_lt_of (f := Co.name) hs
  rcases hy.pre with q | ⟨u1, u2, q⟩
  · have q : pre = [] := q
    subst q
    have hbx : H box = some (.cells [.int .i64 r.day, .msl n0 0 r.types.length, .msl n1 0 r.houses.length, .msl n2 0 r.flights.length, .msl n3 0 r.maps.length, .msl n4 0 r.offers.length, .msl n5 0 r.complaints.length, .int .i64 r.fund]) := hat.box
    show CallT _ H ck 184 [.ptr box 0, .agg (encEv e)] Kn
    refine CallT.less (CallT.inline hX Proofs.Tryz.func184 rfl foll (D := D184) (by kernel_rfl) (tab [(iceKey 3, iceC), (inlKey 10, iceC)]) (tab_ok ⟨ice_holds, ice_holds, trivial⟩) fun k1 => ?_)
    simp only [Proofs.Tryz.f184]
    rw [app_mkT (Nat.le_of_ble_eq_true rfl)]
    simp (maxSteps := 400000) only [go_sem, ↓upXAbsY, ↓upXAbsZa, ↓upXOffC, encEv, encStrs, encInts, hbx, hty, a1, a1']
    refine ⟨by omega, .inl fun hX2 => complaint_call hX2 hato (hyo.mono (ck' := ck + 1 + 1 + 1) (by omega)) (fun l hl => hf l (by have : ck + 1 + 1 + 1 < l.1 := hl; omega)) hr hs fun ck2 hck2 => ?_⟩
    have f4 := fun d => hf (ck2 + 1, d) (by show ck < ck2 + 1; omega)
    simp (maxSteps := 400000) only [go_sem, ↓upXAbsY, ↓upXAbsZa, ↓upXOffC, encEv, encStrs, encInts, hbx, hty, a1, a1', encCo]
    exact ⟨by omega, by omega, _, put_complaints (r' := applyK levelE r e .answer) hyo hato hf (by repeat (first | exact Chg.refl _ _ _ | refine Chg.mem ?_ (List.mem_cons_self ..) | refine Chg.mem ?_ (List.mem_cons_of_mem _ (List.mem_cons_self ..)) | refine Chg.new ?_ (by show ck < _; omega))) ((updH_ne a1).trans ((updH_ne a1).trans <| hbx.trans (congrArg (fun cs => some (AObj.cells cs)) (by simp only [regCells, applyK, List.length_modify]; rfl))))
      ⟨_, updH_same _ _ _, objLe_mod (f := encCo) (l := r.complaints) (p := place (r.namesOf 99) (el e.names 0)) (h := fun x => { x with flight := el e.names 1, answered := e.vl 0 }) fun i hi => rowMod (fun q => by subst q; rfl) (fun q => if_neg q)⟩ rfl rfl rfl rfl rfl, hKn _ (by omega)⟩
  · have q : pre = [u1, u2] := q
    subst q
    have hbx : H box = some (.cells [u1, u2, .int .i64 r.day, .msl n0 0 r.types.length, .msl n1 0 r.houses.length, .msl n2 0 r.flights.length, .msl n3 0 r.maps.length, .msl n4 0 r.offers.length, .msl n5 0 r.complaints.length, .int .i64 r.fund]) := hat.box
    show CallT _ H ck 184 [.ptr box 2, .agg (encEv e)] Kn
    refine CallT.less (CallT.inline hX Proofs.Tryz.func184 rfl foll (D := D184) (by kernel_rfl) (tab [(iceKey 3, iceC), (inlKey 10, iceC)]) (tab_ok ⟨ice_holds, ice_holds, trivial⟩) fun k1 => ?_)
    simp only [Proofs.Tryz.f184]
    rw [app_mkT (Nat.le_of_ble_eq_true rfl)]
    simp (maxSteps := 400000) only [go_sem, ↓upXAbsY, ↓upXAbsZa, ↓upXOffC, encEv, encStrs, encInts, hbx, hty, a1, a1']
    refine ⟨by omega, .inl fun hX2 => complaint_call hX2 hato (hyo.mono (ck' := ck + 1 + 1 + 1) (by omega)) (fun l hl => hf l (by have : ck + 1 + 1 + 1 < l.1 := hl; omega)) hr hs fun ck2 hck2 => ?_⟩
    have f4 := fun d => hf (ck2 + 1, d) (by show ck < ck2 + 1; omega)
    simp (maxSteps := 400000) only [go_sem, ↓upXAbsY, ↓upXAbsZa, ↓upXOffC, encEv, encStrs, encInts, hbx, hty, a1, a1', encCo]
    exact ⟨by omega, by omega, _, put_complaints (r' := applyK levelE r e .answer) hyo hato hf (by repeat (first | exact Chg.refl _ _ _ | refine Chg.mem ?_ (List.mem_cons_self ..) | refine Chg.mem ?_ (List.mem_cons_of_mem _ (List.mem_cons_self ..)) | refine Chg.new ?_ (by show ck < _; omega))) ((updH_ne a1).trans ((updH_ne a1).trans <| hbx.trans (congrArg (fun cs => some (AObj.cells cs)) (by simp only [regCells, applyK, List.length_modify]; rfl))))
      ⟨_, updH_same _ _ _, objLe_mod (f := encCo) (l := r.complaints) (p := place (r.namesOf 99) (el e.names 0)) (h := fun x => { x with flight := el e.names 1, answered := e.vl 0 }) fun i hi => rowMod (fun q => by subst q; rfl) (fun q => if_neg q)⟩ rfl rfl rfl rfl rfl, hKn _ (by omega)⟩


end Go.Fly.Tryz
