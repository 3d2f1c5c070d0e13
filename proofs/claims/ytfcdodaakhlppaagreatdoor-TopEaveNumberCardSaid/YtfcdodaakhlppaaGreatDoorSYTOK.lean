/- The office: levels of houses whose list stays the caller's own; the publishing of a map. -/
import Derived.Test.YtfcdodaakhlppaaGreatDoorSYTOG
import Derived.Test.YtfcdodaakhlppaaGreatDoorSYTOJ
import Derived.Test.YtfcdodaakhlppaaGreatDoorAP
set_option linter.unusedSimpArgs false
set_option linter.unusedVariables false
set_option maxRecDepth 100000
set_option maxHeartbeats 1000000
namespace Go.Fly.Tryz
open Go Off

theorem oMapLevM_ok : Holds Proofs.Tryz.prog G0 173 (mapLevMC 174) := by
  refine Holds.of_exC D173 Proofs.Tryz.func173 rfl foll (by kernel_rfl) (tab [(174, levelC)]) (tab_ok ⟨oLevel_ok, trivial⟩) G0_ok fun k0 rl args hpu hpre => ?_
  unfold mapLevMC at hpre ⊢
  obtain ⟨r, l, rfl, hl, hc⟩ := hpre
  simp only [arg_0, arg_1, dec_hos, dec_reg]
  simp only [Proofs.Tryz.f173]
  rw [enter_mkT (Nat.le_of_ble_eq_true rfl)]
  simp (maxSteps := 4000000) only [go_sem, ↓upXAbsY, ↓upXAbsZa, ↓upXOffC, encRows, encHo]
  refine RestT.ents (Ents.nilArr (d := 5) (l := (4, 1000)) 1 (fun _ => []) rfl rfl rfl) ?_
  simp (maxSteps := 4000000) only [go_sem, ↓upXAbsY, ↓upXAbsZa, ↓upXOffC]
  refine RestT.loopF (β := Nat) [(5, 5), (7, 7), (10, 20)] (fun i => [(5, .msl (4, 1000) 0 i), (10, .int .i64 i)]) (fun i => updH (fun _ => none) (4, 1000) (.arr i 1 (fun i => [.int .i64 (r.level levelE (el l i))]))) (fun i => i ≤ l.length) (fun i => l.length - i) 0 (Nat.zero_le _) ?_ (HpLe.arr1 (updH_same _ _ _) rfl rfl fun i hi => by omega) ?_
  · simp (maxSteps := 4000000) only [go_sem, ↓upXAbsY, ↓upXAbsZa, ↓upXOffC]
    try simp
  · intro ck i hck hi
    generalize hq0 : exC _ _ _ _ _ = gg
    by_cases hlt : i < l.length
    · have hd : decide ((i : Int) < (l.length : Int)) = true := by simp; omega
      rw [← hq0]
      clear hq0
      simp (maxSteps := 4000000) only [go_sem, ↓upXAbsY, ↓upXAbsZa, ↓upXOffC, hd, encRows, encHo]
      exact ⟨⟨by omega, by omega⟩, ⟨r, el l i, rfl, hc _ (el_mem hlt)⟩, ⟨by omega, by omega, row_ok rfl ones_int⟩, inK_of (by omega) (by omega), i + 1, hlt, by omega, ⟨rfl, rfl⟩, HpLe.arr1 (updH_same _ _ _) rfl rfl fun j hj => snoc (f := fun i => [.int .i64 (r.level levelE (el l i))]) rfl rfl hj⟩
    · have hd : decide ((i : Int) < (l.length : Int)) = false := by simp; omega
      obtain rfl : i = l.length := by omega
      rw [← hq0]
      clear hq0
      simp (maxSteps := 4000000) only [go_sem, ↓upXAbsY, ↓upXAbsZa, ↓upXOffC, hd, Nat.zero_add]
      exact ⟨(4, 1000), l.length, 1, _, _, rfl, if_pos rfl, fun _ _ => rfl, rfl, rfl, pu_rows (sz := 1) (f := fun h => [.int .i64 (r.level levelE h)]) (fun x => ones_int.pu) l⟩
theorem row_okM {cells : List V} {sz : Nat} (hl : cells.length = sz) (h : ∀ v ∈ cells, (Pu v ∨ isMsl v = true) ∧ oneC v = true) : ∀ i, i < 1 → ∀ v, v ∈ rowAt cells sz i → (Pu v ∨ isMsl v = true) ∧ oneC v = true := by
  intro i hi v hv
  have : i = 0 := by omega
  subst this
  unfold rowAt at hv
  rw [Nat.zero_mul, List.drop_zero, ← hl, List.take_length] at hv
  exact h v hv
theorem hpLe_upd {S : Heap} {l : Loc} {o o' : AObj} (h : S l = some o) (hle : ObjLe o o') : HpLe S (updH S l o') := by
  intro l2 o2 h2
  by_cases q : l2 = l
  · subst q
    rw [updH_same] at h2
    cases h2
    exact ⟨o, h, hle⟩
  · rw [updH_ne q] at h2
    exact ⟨o2, h2, ObjLe.refl _⟩
theorem onesM {s : Str} {b : Int} {l : Loc} {m : Nat} : ∀ v ∈ [V.str s, V.int .i64 b, V.msl l 0 m], (Pu v ∨ isMsl v = true) ∧ oneC v = true := fun v hv => by
  simp only [List.mem_cons, List.not_mem_nil, or_false] at hv
  rcases hv with rfl | rfl | rfl
  · exact ⟨.inl (.str _), rfl⟩
  · exact ⟨.inl (.int _ _), rfl⟩
  · exact ⟨.inr rfl, rfl⟩
theorem ints1 {f : Nat → Int} {P : V → Prop} (hP : ∀ n, P (.int .i64 n)) (i j : Nat) (v : V) (hv : [V.int .i64 (f i)][j]? = some v) : P v := by
  cases j with
  | zero =>
    simp only [List.getElem?_cons_zero, Option.some.injEq] at hv
    subst hv
    exact hP _
  | succ j => simp at hv
theorem fa6_call {Γ : FuncId → Option Contract} {r0 : Option Nat} {k0 : K} {H : Heap} {ck : Nat} {Kn : V → Heap → Nat → Prop} (hX : (⟨Proofs.Tryz.prog, Γ, G0, r0, k0⟩ : Cx).Ok) {y : Lay} {r : Reg} {e : Ev} (hat : RegAt H y r) (hy : LayOk y ck) (hf : ∀ l : Loc, ck < l.1 → H l = none)
    (hr : RL r) (hv : e.vals.length = 1) (hn : e.names.length = 1) (hc : ∀ h ∈ r.houses, ChainOk r h.share) (hKn : ∀ ck', ck ≤ ck' → Kn (.tup []) (putReg H y (applyK levelE r e .publish)) ck') :
    CallT ⟨Proofs.Tryz.prog, Γ, G0, r0, k0⟩ H ck 172 [.ptr y.box y.off, .agg (encEv e)] Kn := by
  have hyo := hy
  have hato := hat
  obtain ⟨box, pre, n0, n1, n2, n3, n4, n5⟩ := y
  have h0 := hy.hi box (by simp [Lay.locs])
  have h1 := hy.hi n3 (by simp [Lay.locs])
  have f1 := fun d => hf (ck + 1, d) (by show ck < ck + 1; omega)
  have f2 := fun d => hf (ck + 1 + 1, d) (by show ck < ck + 1 + 1; omega)
  have f3 := fun d => hf (ck + 1 + 1 + 1, d) (by show ck < ck + 1 + 1 + 1; omega)
  have f4 := fun d => hf (ck + 1 + 1 + 1 + 1, d) (by show ck < ck + 1 + 1 + 1 + 1; omega)
  have e1 := fun d => freshF (l := box) (ck := ck) (c := ck + 1 + 1 + 1) (d := d) h0 (by omega)
  have e1g := fun d => freshG (l := box) (ck := ck) (c := ck + 1 + 1 + 1) (d := d) h0 (by omega)
  have e2 := fun d => freshF (l := n3) (ck := ck) (c := ck + 1 + 1 + 1) (d := d) h1 (by omega)
  have e2g := fun d => freshG (l := n3) (ck := ck) (c := ck + 1 + 1 + 1) (d := d) h1 (by omega)
  have nd := hy.nd
  simp only [Lay.locs, List.nodup_cons, List.mem_cons, List.not_mem_nil, or_false, not_or] at nd
  have a1 : ¬ box = n3 := by obtain ⟨⟨b0, b1, b2, b3, b4, b5⟩, -⟩ := nd; exact b3
  have a1' : ¬ n3 = box := fun q => a1 q.symm
  have a2 : ¬ box = n1 := by obtain ⟨⟨b0, b1, b2, b3, b4, b5⟩, -⟩ := nd; exact b1
  have a2' : ¬ n1 = box := fun q => a2 q.symm
  have hty : H n3 = some (.arr r.maps.length 3 fun i => encMp (el r.maps i)) := hat.maps
  have hto : H n1 = some (.arr r.houses.length 2 fun i => encHo (el r.houses i)) := hat.houses
  obtain ⟨r1, r2, r3, r4, r5, r6⟩ := id hr
  rcases hy.pre with q | ⟨u1, u2, q⟩
  · have q : pre = [] := q
    subst q
    have hbx : H box = some (.cells [.int .i64 r.day, .msl n0 0 r.types.length, .msl n1 0 r.houses.length, .msl n2 0 r.flights.length, .msl n3 0 r.maps.length, .msl n4 0 r.offers.length, .msl n5 0 r.complaints.length, .int .i64 r.fund]) := hat.box
    show CallT _ H ck 172 [.ptr box 0, .agg (encEv e)] Kn
    have hfz : frz 4 H (.ptr box 0) = .cptr (encReg r) := frz_reg 1 hato
    have hsl : (V.sl r.houses.length 2 fun i => encHo (el r.houses i)) = encRows 2 encHo r.houses := rfl
    refine CallT.post (CallT.less (CallT.inline hX Proofs.Tryz.func172 rfl foll (D := D172) (by kernel_rfl) (tab [(173, mapLevMC 174), (iceKey 3, iceC), (ownKey 26, iceC)]) (tab_ok ⟨oMapLevM_ok, ice_holds, ice_holds, trivial⟩) fun k1 => ?_))
    simp only [Proofs.Tryz.f172]
    rw [app_mkT (Nat.le_of_ble_eq_true rfl)]
    simp (maxSteps := 400000) only [go_sem, ↓upXAbsY, ↓upXAbsZa, ↓upXOffC, encEv, encStrs, encInts, hbx, hty, hto, f1, f2, f3, f4, a1, a1', a2, a2', e1, e1g, e2, e2g, hfz, hsl, Nat.zero_add]
    have b1 : ¬ n3 = (ck + 1 + 1 + 1, 23) := by rw [e2 23]; exact id
    have b2 : ¬ box = (ck + 1 + 1 + 1, 23) := by rw [e1 23]; exact id
    have b2' : ¬ (ck + 1 + 1 + 1, 23) = box := by rw [e1g 23]; exact id
    have b1' : ¬ (ck + 1 + 1 + 1, 23) = n3 := by rw [e2g 23]; exact id
    refine ⟨by omega, by omega, ⟨⟨r, r.houses, rfl, r2, hc⟩, .msl _ _ _, fun i j v _ hv => ints1 (f := fun i => r.level levelE (el r.houses i)) (fun _ => .int _ _) i j v hv⟩, ⟨by omega, by omega, row_okM rfl onesM⟩, _, hpLe_upd (l := (ck + 1 + 1 + 1, 23)) (o := .arr r.houses.length 1 fun i => [.int .i64 (r.level levelE (el r.houses i))]) (o' := .arr r.houses.length 1 fun i => [.int .i64 (el (r.houses.map (r.level levelE)) i)]) (by simp only [updH_app, if_neg b2', if_neg b1', Prod.mk.injEq, Nat.reduceEqDiff, and_false, if_false, if_true, and_self]) ⟨rfl, rfl, fun i hi => congrArg (fun x => [V.int .i64 x]) (el_map (r.level levelE) r.houses hi)⟩, .tup [], putReg H _ (applyK levelE r e .publish), ck + 1 + 1 + 1 + 1 + 1, fun k0 => ?_, hKn _ ?_⟩
    · refine Ents.trans (Ents.killR (l := (ck + 1 + 1 + 1, 23)) (l2 := n3) (n := r.houses.length) (sz := 1) (get := fun i => [.int .i64 (el (r.houses.map (r.level levelE)) i)]) (i0 := r.maps.length) (j0 := 2) b1
        (updH_same _ _ _) ((updH_ne b1).trans <| (updH_ne a1').trans (updH_same _ _ _)) (Nat.lt_succ_self _) ?_ fun i j v _ hv => ints1 (f := fun i => el (r.houses.map (r.level levelE)) i) (fun _ => .int _ _) i j v hv) (Ents.go (tm' := [.tup []]) ⟨.inr rfl, trivial⟩ ?_)
      · simp only [Nat.lt_irrefl, if_false, Nat.sub_self]
        rfl
      · refine put_maps (r' := applyK levelE r e .publish) hyo hato hf (by repeat (first | exact Chg.refl _ _ _ | refine Chg.mem ?_ (List.mem_cons_self ..) | refine Chg.mem ?_ (List.mem_cons_of_mem _ (List.mem_cons_self ..)) | refine Chg.new ?_ (by show ck < _; omega))) ((updH_ne a1).trans <| (updH_ne b2).trans <| (updH_ne b2).trans <| (updH_same _ _ _).trans (congrArg (fun cs => some (AObj.cells cs)) (by simp only [regCells, applyK, List.length_append]; rfl)))
          ⟨_, updH_same _ _ _, objLe_snoc (f := encMp) (l := r.maps) (x := ⟨e.nm 0, e.vl 0, r.houses.map (r.level levelE)⟩) rfl fun j hj => ?_⟩ rfl rfl rfl rfl rfl
        by_cases q : j < r.maps.length
        · rw [if_neg (by omega), if_pos q, el_snoc_lt q]
        · obtain rfl : j = r.maps.length := by omega
          rw [if_pos rfl, if_neg (Nat.lt_irrefl _), Nat.sub_self, el_snoc rfl]
          show [V.str (e.nm 0), .int .i64 (e.vl 0), encInts (r.houses.map (r.level levelE))] = _
          unfold encInts
          rw [List.length_map]
          rfl
    · omega
  · have q : pre = [u1, u2] := q
    subst q
    have hbx : H box = some (.cells [u1, u2, .int .i64 r.day, .msl n0 0 r.types.length, .msl n1 0 r.houses.length, .msl n2 0 r.flights.length, .msl n3 0 r.maps.length, .msl n4 0 r.offers.length, .msl n5 0 r.complaints.length, .int .i64 r.fund]) := hat.box
    show CallT _ H ck 172 [.ptr box 2, .agg (encEv e)] Kn
    have hfz : frz 4 H (.ptr box 2) = .cptr (encReg r) := frz_reg 1 hato
    have hsl : (V.sl r.houses.length 2 fun i => encHo (el r.houses i)) = encRows 2 encHo r.houses := rfl
    refine CallT.post (CallT.less (CallT.inline hX Proofs.Tryz.func172 rfl foll (D := D172) (by kernel_rfl) (tab [(173, mapLevMC 174), (iceKey 3, iceC), (ownKey 26, iceC)]) (tab_ok ⟨oMapLevM_ok, ice_holds, ice_holds, trivial⟩) fun k1 => ?_))
    simp only [Proofs.Tryz.f172]
    rw [app_mkT (Nat.le_of_ble_eq_true rfl)]
    simp (maxSteps := 400000) only [go_sem, ↓upXAbsY, ↓upXAbsZa, ↓upXOffC, encEv, encStrs, encInts, hbx, hty, hto, f1, f2, f3, f4, a1, a1', a2, a2', e1, e1g, e2, e2g, hfz, hsl, Nat.zero_add]
    have b1 : ¬ n3 = (ck + 1 + 1 + 1, 23) := by rw [e2 23]; exact id
    have b2 : ¬ box = (ck + 1 + 1 + 1, 23) := by rw [e1 23]; exact id
    have b2' : ¬ (ck + 1 + 1 + 1, 23) = box := by rw [e1g 23]; exact id
    have b1' : ¬ (ck + 1 + 1 + 1, 23) = n3 := by rw [e2g 23]; exact id
    refine ⟨by omega, by omega, ⟨⟨r, r.houses, rfl, r2, hc⟩, .msl _ _ _, fun i j v _ hv => ints1 (f := fun i => r.level levelE (el r.houses i)) (fun _ => .int _ _) i j v hv⟩, ⟨by omega, by omega, row_okM rfl onesM⟩, _, hpLe_upd (l := (ck + 1 + 1 + 1, 23)) (o := .arr r.houses.length 1 fun i => [.int .i64 (r.level levelE (el r.houses i))]) (o' := .arr r.houses.length 1 fun i => [.int .i64 (el (r.houses.map (r.level levelE)) i)]) (by simp only [updH_app, if_neg b2', if_neg b1', Prod.mk.injEq, Nat.reduceEqDiff, and_false, if_false, if_true, and_self]) ⟨rfl, rfl, fun i hi => congrArg (fun x => [V.int .i64 x]) (el_map (r.level levelE) r.houses hi)⟩, .tup [], putReg H _ (applyK levelE r e .publish), ck + 1 + 1 + 1 + 1 + 1, fun k0 => ?_, hKn _ ?_⟩
    · refine Ents.trans (Ents.killR (l := (ck + 1 + 1 + 1, 23)) (l2 := n3) (n := r.houses.length) (sz := 1) (get := fun i => [.int .i64 (el (r.houses.map (r.level levelE)) i)]) (i0 := r.maps.length) (j0 := 2) b1
        (updH_same _ _ _) ((updH_ne b1).trans <| (updH_ne a1').trans (updH_same _ _ _)) (Nat.lt_succ_self _) ?_ fun i j v _ hv => ints1 (f := fun i => el (r.houses.map (r.level levelE)) i) (fun _ => .int _ _) i j v hv) (Ents.go (tm' := [.tup []]) ⟨.inr rfl, trivial⟩ ?_)
      · simp only [Nat.lt_irrefl, if_false, Nat.sub_self]
        rfl
      · refine put_maps (r' := applyK levelE r e .publish) hyo hato hf (by repeat (first | exact Chg.refl _ _ _ | refine Chg.mem ?_ (List.mem_cons_self ..) | refine Chg.mem ?_ (List.mem_cons_of_mem _ (List.mem_cons_self ..)) | refine Chg.new ?_ (by show ck < _; omega))) ((updH_ne a1).trans <| (updH_ne b2).trans <| (updH_ne b2).trans <| (updH_same _ _ _).trans (congrArg (fun cs => some (AObj.cells cs)) (by simp only [regCells, applyK, List.length_append]; rfl)))
          ⟨_, updH_same _ _ _, objLe_snoc (f := encMp) (l := r.maps) (x := ⟨e.nm 0, e.vl 0, r.houses.map (r.level levelE)⟩) rfl fun j hj => ?_⟩ rfl rfl rfl rfl rfl
        by_cases q : j < r.maps.length
        · rw [if_neg (by omega), if_pos q, el_snoc_lt q]
        · obtain rfl : j = r.maps.length := by omega
          rw [if_pos rfl, if_neg (Nat.lt_irrefl _), Nat.sub_self, el_snoc rfl]
          show [V.str (e.nm 0), .int .i64 (e.vl 0), encInts (r.houses.map (r.level levelE))] = _
          unfold encInts
          rw [List.length_map]
          rfl
    · omega

end Go.Fly.Tryz
