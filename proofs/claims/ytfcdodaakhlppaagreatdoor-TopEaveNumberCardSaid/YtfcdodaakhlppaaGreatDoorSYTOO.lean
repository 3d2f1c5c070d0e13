/- The office: an event is added to a history. -/
import Derived.Test.YtfcdodaakhlppaaGreatDoorSYTON
import Derived.Test.YtfcdodaakhlppaaGreatDoorAS
set_option linter.unusedSimpArgs false
set_option linter.unusedVariables false
set_option maxRecDepth 100000
set_option maxHeartbeats 1000000
namespace Go.Fly.Tryz
open Go Off

theorem evRow (e : Ev) : ∀ i, i < 1 → ∀ v, v ∈ rowAt (encEv e) 5 (0 + i) → (Pu v ∨ isMsl v = true) ∧ oneC v = true := fun i hi v hv => by
  rw [Nat.zero_add] at hv
  exact row_okM (cells := encEv e) rfl (fun v hv => by
    simp only [encEv, List.mem_cons, List.not_mem_nil, or_false] at hv
    rcases hv with rfl | rfl | rfl | rfl | rfl
    · exact ⟨.inl (.int _ _), rfl⟩
    · exact ⟨.inl (.str _), rfl⟩
    · exact ⟨.inl ((pu_encStrs _).2 trivial), rfl⟩
    · exact ⟨.inl ((pu_encInts _).2 trivial), rfl⟩
    · exact ⟨.inl (.str _), rfl⟩) i hi v hv
theorem add_call {Γ : FuncId → Option Contract} {r0 : Option Nat} {k0 : K} {H : Heap} {ck : Nat} {Kn : V → Heap → Nat → Prop} (hX : (⟨Proofs.Tryz.prog, Γ, G0, r0, k0⟩ : Cx).Ok) {y : Lay} {ne nc : Loc} {h : Hist} {e : Ev}
    (hat : HAt H y ne nc h) (hy : HLayOk y ne nc ck) (hf : ∀ l : Loc, ck < l.1 → H l = none) (ho : HOk levelE h) (hn : h.events.length ≤ 1000) (he : eventE e = 0) (ha : acceptE h e = 0)
    (hKn : ∀ H' y' nc' ck', y'.box = y.box → ck ≤ ck' → HAt H' y' ne nc' (addE levelE h e) → HLayOk y' ne nc' ck' → (∀ l : Loc, ck' < l.1 → H' l = none) → Kn (.tup []) H' ck') :
    CallT ⟨Proofs.Tryz.prog, Γ, G0, r0, k0⟩ H ck 95 [.ptr y.box 0, .agg (encEv e)] Kn := by
  obtain ⟨k, hk, hnm, hvl, hbd, -, -, hn1, hn2⟩ := event_ok he
  have hu := undo_iff hk
  have hev := hat.ev
  have hct := hat.ct
  have hbx : H y.box = some (.cells (y.pre ++ regCells y h.now)) := hat.reg.box
  rw [hat.pre] at hbx
  simp only [regCells, List.cons_append, List.nil_append] at hbx
  have f1 := fun d => hf (ck + 1, d) (by show ck < ck + 1; omega)
  have f2 := fun d => hf (ck + 1 + 1, d) (by show ck < ck + 1 + 1; omega)
  have f3 := fun d => hf (ck + 1 + 1 + 1, d) (by show ck < ck + 1 + 1 + 1; omega)
  have f4 := fun d => hf (ck + 1 + 1 + 1 + 1, d) (by show ck < ck + 1 + 1 + 1 + 1; omega)
  have f5 := fun d => hf (ck + 1 + 1 + 1 + 1 + 1, d) (by show ck < ck + 1 + 1 + 1 + 1 + 1; omega)
  have f6 := fun d => hf (ck + 1 + 1 + 1 + 1 + 1 + 1, d) (by show ck < ck + 1 + 1 + 1 + 1 + 1 + 1; omega)
  have f7 := fun d => hf (ck + 1 + 1 + 1 + 1 + 1 + 1 + 1, d) (by show ck < ck + 1 + 1 + 1 + 1 + 1 + 1 + 1; omega)
  have f8 := fun d => hf (ck + 1 + 1 + 1 + 1 + 1 + 1 + 1 + 1, d) (by show ck < ck + 1 + 1 + 1 + 1 + 1 + 1 + 1 + 1; omega)
  have hb := hy.lay.hi _ y.mem.1
  have a1 : ¬ y.box = ne := fun q => hy.ne_out (q ▸ y.mem.1)
  have a1' : ¬ ne = y.box := fun q => a1 q.symm
  have a2 : ¬ y.box = nc := fun q => hy.nc_out (q ▸ y.mem.1)
  have a2' : ¬ nc = y.box := fun q => a2 q.symm
  have a3 : ¬ ne = nc := hy.ne_nc
  have a3' : ¬ nc = ne := fun q => a3 q.symm
  have b1 := fun c d (hc : ck < c) => freshF (l := y.box) (ck := ck) (c := c) (d := d) hb hc
  have b1' := fun c d (hc : ck < c) => freshG (l := y.box) (ck := ck) (c := c) (d := d) hb hc
  have b2 := fun c d (hc : ck < c) => freshF (l := ne) (ck := ck) (c := c) (d := d) hy.ne_lo hc
  have b2' := fun c d (hc : ck < c) => freshG (l := ne) (ck := ck) (c := c) (d := d) hy.ne_lo hc
  have b3 := fun c d (hc : ck < c) => freshF (l := nc) (ck := ck) (c := c) (d := d) hy.nc_lo hc
  have b3' := fun c d (hc : ck < c) => freshG (l := nc) (ck := ck) (c := c) (d := d) hy.nc_lo hc
  have c2 : ck < ck + 1 + 1 := by omega
  have c3 : ck < ck + 1 + 1 + 1 := by omega
  have c4 : ck < ck + 1 + 1 + 1 + 1 := by omega
  have c5 : ck < ck + 1 + 1 + 1 + 1 + 1 := by omega
  have c6 : ck < ck + 1 + 1 + 1 + 1 + 1 + 1 := by omega
  have c7 : ck < ck + 1 + 1 + 1 + 1 + 1 + 1 + 1 := by omega
  have c8 : ck < ck + 1 + 1 + 1 + 1 + 1 + 1 + 1 + 1 := by omega
  have hlen1 : e.names.length ≤ 1000000 := by rw [hnm]; cases k <;> decide
  have hlen2 : e.vals.length ≤ 1000000 := by rw [hvl]; cases k <;> decide
  by_cases cu : k = .undo
  · rw [decide_eq_true cu] at hu
    refine CallT.less (CallT.inline hX Proofs.Tryz.func95 rfl foll (D := D95) (by kernel_rfl) (tab [(78, ownC), (inlKey 55, iceC), (inlKey 38, iceC), (ownKey 13, iceC), (ownKey 48, iceC)]) (tab_ok ⟨oOwn_ok, ice_holds, ice_holds, ice_holds, ice_holds, trivial⟩) fun k1 => ?_)
    simp only [Proofs.Tryz.f95]
    rw [app_mkT (Nat.le_of_ble_eq_true rfl)]
    simp (maxSteps := 400000) only [go_sem, ↓upXAbsY, ↓upXAbsZa, ↓upXOffC, encEv, encStrs, encInts, hbx, hev, hct, f1, f2, f3, f4, f5, f6, f7, f8, a1, a1', a2, a2', a3, a3', b1 _ _ c2, b1 _ _ c3, b1 _ _ c4, b1 _ _ c5, b1 _ _ c6, b1 _ _ c7, b1 _ _ c8, b1' _ _ c2, b1' _ _ c3, b1' _ _ c4, b1' _ _ c5, b1' _ _ c6, b1' _ _ c7, b1' _ _ c8, b2 _ _ c2, b2 _ _ c3, b2 _ _ c4, b2 _ _ c5, b2 _ _ c6, b2 _ _ c7, b2 _ _ c8, b2' _ _ c2, b2' _ _ c3, b2' _ _ c4, b2' _ _ c5, b2' _ _ c6, b2' _ _ c7, b2' _ _ c8, b3 _ _ c2, b3 _ _ c3, b3 _ _ c4, b3 _ _ c5, b3 _ _ c6, b3 _ _ c7, b3 _ _ c8, b3' _ _ c2, b3' _ _ c3, b3' _ _ c4, b3' _ _ c5, b3' _ _ c6, b3' _ _ c7, b3' _ _ c8, hu]
    have hrow : ∀ (l : List Ev), ObjLe (.arr (l.length + 1) 5 fun i => if i < l.length then encEv (el l i) else rowAt (encEv e) 5 (0 + (i - l.length))) (.arr (l ++ [e]).length 5 fun i => encEv (el (l ++ [e]) i)) := fun l => objLe_snoc (f := encEv) rfl fun j hj => (snocE (f := encEv) (sz := 5) rfl rfl hj).trans (by rw [Nat.zero_add])
    have hel : ∀ (l : List Ev), (l ++ [e]).length = l.length + 1 := fun l => by rw [List.length_append]; rfl
    have h0 : 0 < h.counted.length := by
      rcases accept_zero he ha with ⟨-, q⟩ | ⟨k', hk'⟩
      · exact q
      · have := hk'.kind; rw [hk] at this; cases this; exact absurd cu hk'.real
    have hle := ho.le
    have hdl : ((h.counted.length : Int) - 1).toNat = h.counted.dropLast.length := by rw [List.length_dropLast]; omega
    rw [hdl]
    refine ⟨⟨e, rfl, hlen1, hlen2⟩, ⟨by omega, by omega, evRow e⟩, by omega, inK_of (by omega) (by omega), ⟨by omega, by omega, by omega⟩, .inl fun hX2 => ?_⟩
    have hy2 : HLayOk y ne (ck + 1 + 1 + 1 + 1 + 1 + 1 + 1, 1000) (ck + 1 + 1 + 1 + 1 + 1 + 1 + 1) := ⟨hy.lay.mono (by omega), fun q => by have := hy.ne_lo; rw [q] at this; simp only at this; omega, hy.ne_out, fun q => by have := hy.lay.hi _ q; simp only at this; omega, by have := hy.ne_lo; omega, Nat.le_refl _⟩
    have hcl : ∀ c d, ck < c → ((c, d) : Loc) ≠ nc ∧ ((c, d) : Loc) ≠ ne ∧ ((c, d) : Loc) ≠ y.box := fun c d hc => ⟨fun q => by have := hy.nc_lo; rw [← q] at this; simp only at this; omega, fun q => by have := hy.ne_lo; rw [← q] at this; simp only at this; omega, fun q => by have := hb; rw [← q] at this; simp only at this; omega⟩
    have hreg : RegAt (fun l => if l = nc then none else H l) y h.now := hat.reg.upd fun l hl => if_neg (by rintro rfl; exact hy.nc_out hl)
    have hH2 := putH_at (H := fun l => if l = nc then none else H l) hy2 (h.events ++ [e]) h.counted.dropLast h.now
    refine CallT.pre (ck2 := ck + 1 + 1 + 1 + 1 + 1 + 1 + 1 + 1) (hp2 := putH (fun l => if l = nc then none else H l) y ne (ck + 1 + 1 + 1 + 1 + 1 + 1 + 1, 1000) (h.events ++ [e]) h.counted.dropLast h.now) (args2 := [.msl (ck + 1 + 1 + 1 + 1 + 1 + 1 + 1, 1000) 0 h.counted.dropLast.length]) (fun k2 => Ents.trans (Ents.shrink (l := nc) (l' := (ck + 1 + 1 + 1 + 1 + 1 + 1 + 1, 1000)) (l2 := y.box) (j := 1) (d := 0) a2 (Ne.symm (hcl _ _ c7).2.2) ((updH_ne a2').trans <| (updH_ne a2').trans <| (updH_ne a3').trans <| (updH_ne (Ne.symm (hcl _ _ c4).1)).trans <| (updH_ne (Ne.symm (hcl _ _ c2).1)).trans <| (updH_ne (Ne.symm (hcl _ _ c2).1)).trans hct) (by rw [List.length_dropLast]; omega) ((updH_ne (hcl _ _ c7).2.2).trans <| (updH_ne (hcl _ _ c7).2.2).trans <| (updH_ne (hcl _ _ c7).2.1).trans <| (updH_ne (by simp)).trans <| (updH_ne (by simp)).trans <| (updH_ne (by simp)).trans (f7 _)) rfl (updH_same _ _ _) rfl rfl) (Ents.go (tmLe_refl _) ?_)) ?_
    · refine hist_le2 (ck := ck + 1 + 1 + 1 + 1 + 1 + 1 + 1) hreg (hy.lay.mono (by omega)) hy.ne_out hy2.nc_out ((updH_same _ _ _).trans (congrArg (fun cs => some (AObj.cells cs)) (by rw [hel]; rfl))) ⟨_, (updH_ne a1').trans <| (updH_ne (Ne.symm (hcl _ _ c7).2.1)).trans <| (updH_ne a3).trans <| (updH_ne a1').trans <| (updH_ne a1').trans (updH_same _ _ _), hrow h.events⟩ ⟨_, (updH_ne (hcl _ _ c7).2.2).trans (updH_same _ _ _), by rw [List.length_dropLast]; exact ⟨rfl, rfl, fun i hi => congrArg encEv (el_dropLast hi)⟩⟩ ?_
      intro l o hlo hnot
      simp only [List.mem_cons, List.not_mem_nil, or_false, not_or] at hnot
      have hlnc : l ≠ nc := fun q => by rw [if_pos q] at hlo; cases hlo
      rw [if_neg hlnc] at hlo
      have hlc : l.1 ≤ ck := by
        apply Classical.byContradiction
        intro q
        rw [hf l (by omega)] at hlo
        cases hlo
      have hfr : ∀ c d, ck < c → l ≠ (c, d) := fun c d hc q => by subst q; have : c ≤ ck := hlc; omega
      exact (updH_ne hnot.1).trans <| (updH_ne hnot.2.2).trans <| (updH_ne hlnc).trans <| (updH_ne hnot.1).trans <| (updH_ne hnot.1).trans <| (updH_ne hnot.2.1).trans <| (updH_ne (hfr _ _ c4)).trans <| (updH_ne (hfr _ _ c2)).trans <| (updH_ne (hfr _ _ c2)).trans hlo
    · have hfree : ∀ l : Loc, ck + 1 + 1 + 1 + 1 + 1 + 1 + 1 + 1 < l.1 → putH (fun l => if l = nc then none else H l) y ne (ck + 1 + 1 + 1 + 1 + 1 + 1 + 1, 1000) (h.events ++ [e]) h.counted.dropLast h.now l = none := fun l hl => putH_free hy2 (fun l hl => by
        show (if l = nc then none else H l) = none
        rw [hf l (by omega)]; split <;> rfl) (by omega)
      refine made_call hX2 hH2.ct (Nat.le_succ _) hfree (by rw [List.dropLast_eq_take]; exact ho.cnt.take _) (by rw [List.length_dropLast]; omega) fun y2 ck2 hp2 hnew hok2 => ?_
      have hck2 : ck + 1 + 1 + 1 + 1 + 1 + 1 + 1 + 1 < ck2 := Nat.lt_of_lt_of_le (hnew _ y2.mem.1) (hok2.hi _ y2.mem.1)
      obtain ⟨u1, u2⟩ := undo_at (r := made levelE h.counted.dropLast) (hy2.mono (Nat.le_succ _)) (Nat.le_of_lt hck2) hok2 hnew hH2.ev hH2.ct
      have hbx3 : putReg (putH (fun l => if l = nc then none else H l) y ne (ck + 1 + 1 + 1 + 1 + 1 + 1 + 1, 1000) (h.events ++ [e]) h.counted.dropLast h.now) y2 (made levelE h.counted.dropLast) y.box = some (.cells ([.msl ne 0 (h.events ++ [e]).length, .msl (ck + 1 + 1 + 1 + 1 + 1 + 1 + 1, 1000) 0 h.counted.dropLast.length] ++ regCells y h.now)) := (putReg_ne (fun q => by have := hnew _ q; omega)).trans hH2.reg.box
      have hg : ∀ l : Loc, ck2 < l.1 → putReg (putH (fun l => if l = nc then none else H l) y ne (ck + 1 + 1 + 1 + 1 + 1 + 1 + 1, 1000) (h.events ++ [e]) h.counted.dropLast h.now) y2 (made levelE h.counted.dropLast) l = none := fun l hl => (putReg_ne (fun q => by have := hok2.hi l q; omega)).trans (hfree l (by omega))
      generalize putReg (putH (fun l => if l = nc then none else H l) y ne (ck + 1 + 1 + 1 + 1 + 1 + 1 + 1, 1000) (h.events ++ [e]) h.counted.dropLast h.now) y2 (made levelE h.counted.dropLast) = H3 at hbx3 u1 hg ⊢
      simp only [regCells, List.cons_append, List.nil_append] at hbx3
      simp (maxSteps := 400000) only [go_sem, ↓upXAbsY, ↓upXAbsZa, ↓upXOffC, hbx3, regCells]
      have hadd : addE levelE h e = ⟨h.events ++ [e], h.counted.dropLast, made levelE h.counted.dropLast⟩ := by
        unfold addE
        rw [if_pos (by rw [hk, cu])]
      refine ⟨_, HpLe.refl _, hKn _ ⟨y.box, [.msl ne 0 (h.events ++ [e]).length, .msl (ck + 1 + 1 + 1 + 1 + 1 + 1 + 1, 1000) 0 h.counted.dropLast.length], y2.n0, y2.n1, y2.n2, y2.n3, y2.n4, y2.n5⟩ (ck + 1 + 1 + 1 + 1 + 1 + 1 + 1, 1000) _ rfl (by omega) (by rw [hadd]; exact u1) (u2.mono (Nat.le_succ _)) fun l hl => ?_⟩
      refine (updH_ne (fun q => ?_)).trans (hg l (by omega))
      rw [q] at hl
      omega
  · rw [decide_eq_false cu] at hu
    refine CallT.less (CallT.inline hX Proofs.Tryz.func95 rfl foll (D := D95) (by kernel_rfl) (tab [(78, ownC), (inlKey 55, iceC), (inlKey 38, iceC), (ownKey 13, iceC), (ownKey 48, iceC)]) (tab_ok ⟨oOwn_ok, ice_holds, ice_holds, ice_holds, ice_holds, trivial⟩) fun k1 => ?_)
    simp only [Proofs.Tryz.f95]
    rw [app_mkT (Nat.le_of_ble_eq_true rfl)]
    simp (maxSteps := 400000) only [go_sem, ↓upXAbsY, ↓upXAbsZa, ↓upXOffC, encEv, encStrs, encInts, hbx, hev, hct, f1, f2, f3, f4, f5, f6, f7, f8, a1, a1', a2, a2', a3, a3', b1 _ _ c2, b1 _ _ c3, b1 _ _ c4, b1 _ _ c5, b1 _ _ c6, b1 _ _ c7, b1 _ _ c8, b1' _ _ c2, b1' _ _ c3, b1' _ _ c4, b1' _ _ c5, b1' _ _ c6, b1' _ _ c7, b1' _ _ c8, b2 _ _ c2, b2 _ _ c3, b2 _ _ c4, b2 _ _ c5, b2 _ _ c6, b2 _ _ c7, b2 _ _ c8, b2' _ _ c2, b2' _ _ c3, b2' _ _ c4, b2' _ _ c5, b2' _ _ c6, b2' _ _ c7, b2' _ _ c8, b3 _ _ c2, b3 _ _ c3, b3 _ _ c4, b3 _ _ c5, b3 _ _ c6, b3 _ _ c7, b3 _ _ c8, b3' _ _ c2, b3' _ _ c3, b3' _ _ c4, b3' _ _ c5, b3' _ _ c6, b3' _ _ c7, b3' _ _ c8, hu]
    have hrow : ∀ (l : List Ev), ObjLe (.arr (l.length + 1) 5 fun i => if i < l.length then encEv (el l i) else rowAt (encEv e) 5 (0 + (i - l.length))) (.arr (l ++ [e]).length 5 fun i => encEv (el (l ++ [e]) i)) := fun l => objLe_snoc (f := encEv) rfl fun j hj => (snocE (f := encEv) (sz := 5) rfl rfl hj).trans (by rw [Nat.zero_add])
    have hel : ∀ (l : List Ev), (l ++ [e]).length = l.length + 1 := fun l => by rw [List.length_append]; rfl
    refine ⟨⟨e, rfl, hlen1, hlen2⟩, ⟨by omega, by omega, ?_⟩, ⟨by have := ho.le; omega, by have := ho.le; omega, ?_⟩, .inl fun hX2 => ?_⟩
    · exact evRow e
    · exact evRow e
    · rcases accept_zero he ha with ⟨hk2, -⟩ | ⟨k', hk'⟩
      · rw [hk] at hk2; cases hk2; exact absurd rfl cu
      have hkk : k' = k := by have := hk'.kind; rw [hk] at this; cases this; rfl
      subst hkk
      refine CallT.pre (hp2 := putH H y ne nc (h.events ++ [e]) (h.counted ++ [e]) h.now) (ck2 := ck + 1 + 1 + 1 + 1 + 1 + 1 + 1 + 1) (args2 := [.ptr y.box 2, .agg (encEv e)]) (fun k2 => Ents.go (tmLe_refl _) ?_) ?_
      · refine hist_le hat hy hf ((updH_same _ _ _).trans (congrArg (fun cs => some (AObj.cells cs)) (by rw [hel, hel]; rfl))) ⟨_, (updH_ne a1').trans <| (updH_ne a3).trans <| (updH_ne (fun q => by rw [b2 _ _ c6] at q; exact q)).trans <| (updH_ne a1').trans (updH_same _ _ _), hrow h.events⟩ ⟨_, (updH_ne a2').trans (updH_same _ _ _), hrow h.counted⟩ ?_
        intro l h1 h2
        simp only [List.mem_cons, List.not_mem_nil, or_false, not_or] at h2
        have hfr : ∀ c d, ck < c → l ≠ (c, d) := fun c d hc q => by subst q; have : c ≤ ck := h1; omega
        rw [updH_ne h2.1, updH_ne h2.2.2, updH_ne (hfr _ _ c6), updH_ne h2.1, updH_ne h2.2.1, updH_ne (hfr _ _ c4), updH_ne (hfr _ _ c2), updH_ne (hfr _ _ c2)]
      · have hy1 : HLayOk { y with pre := [.msl ne 0 (h.events ++ [e]).length, .msl nc 0 (h.counted ++ [e]).length] } ne nc ck := hy.withPre _ _
        have hA := putH_at (H := H) hy (h.events ++ [e]) (h.counted ++ [e]) h.now
        refine apply_call (y := { y with pre := [.msl ne 0 (h.events ++ [e]).length, .msl nc 0 (h.counted ++ [e]).length] }) hX2 hA.reg (hy1.lay.mono (by omega)) (fun l hl => putH_free hy hf (by omega)) hk cu (hk'.pre ho.good) fun ck' hck' => ⟨_, HpLe.refl _, ?_⟩
        refine hKn _ { y with pre := [.msl ne 0 (h.events ++ [e]).length, .msl nc 0 (h.counted ++ [e]).length] } nc _ rfl (by omega) ?_ (hy1.mono (by omega)) (fun l hl => ?_)
        · have hadd : addE levelE h e = ⟨h.events ++ [e], h.counted ++ [e], applyE levelE h.now e⟩ := by
            unfold addE
            rw [if_neg (by rw [hk]; simp only [Option.some.injEq]; exact cu)]
          rw [hadd]
          exact ⟨putReg_at hy1.lay _, rfl, (putReg_ne hy1.ne_out).trans hA.ev, (putReg_ne hy1.nc_out).trans hA.ct⟩
        · rw [putReg_ne (y := { y with pre := [.msl ne 0 (h.events ++ [e]).length, .msl nc 0 (h.counted ++ [e]).length] }) (fun q => by have := hy.lay.hi l q; omega)]
          exact putH_free hy hf (by omega)
end Go.Fly.Tryz
