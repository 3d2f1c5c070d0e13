/- PROVED: for every input, 'flyovertop.TopChimeThrough' returns true, and its arguments read behind the call as they did. Conditions: those of the given row, none beside. The card ties the listed variable to the program's text (a pruned copy). -/
import Derived.Test.YtlfciglmhomdpaaDoorSBU
import Derived.Test.YtlfciglmhomdpaaDoorCards
import Derived.Test.YtlfciglmhomdpaaDoorTie
set_option linter.unusedSimpArgs false
set_option linter.unusedVariables false
set_option maxRecDepth 100000
namespace Go.Proofs.YtlfciglmhomdpaaDoor
open Go Go.ChangeShapes Go.WideShapes Go.RowKit Go.Fly Go.Fly.Tryd

theorem own : ownKnob Tryd.prog.godebug = none := by kernel_rfl
theorem gBase : Tryd.prog.globalNamed "flyover/sound.base" = some 0 := by kernel_rfl
theorem tBase : (Tryd.prog.globals[0]?).map (·.type) = some 140 := by kernel_rfl
theorem laidOut : laidOutB Tryd.prog = true := by kernel_rfl
theorem read26 : Tryd.prog.readableRec 26 = true := by kernel_rfl
theorem read27 : Tryd.prog.readableRec 27 = true := by kernel_rfl
theorem read35 : Tryd.prog.readableRec 35 = true := by kernel_rfl
theorem row26 : 26 < Tryd.prog.types.size := of_decide_eq_true (by kernel_rfl)
theorem row27 : 27 < Tryd.prog.types.size := of_decide_eq_true (by kernel_rfl)
theorem row35 : 35 < Tryd.prog.types.size := of_decide_eq_true (by kernel_rfl)

abbrev laid1 : List (String × DataW Unit) := [("flyover/sound.base", Rows.laid_flyover_sound_base)]
/-- The door's own heap meets the condition. -/
theorem door_met (os : Os) (args : Array Value) : laidMetH Tryd.prog laid1 ((World.doorLaid Tryd.prog 400 os).forCall (fun _ _ => 0) ⟨#[], args, []⟩).memory :=
  laidMetH_of_parts3 (fuel := 8) (laidMet_of_run' 8 (by kernel_rfl) (by kernel_rfl)) (by kernel_rfl) (by kernel_rfl)

def baseL : List Int := [10, 13, 16, 20, 25, 32, 40, 50, 63, 79]
/-- What the condition gives: the variable's cells. -/
theorem of_laid {W : World} (h : laidMetH Tryd.prog laid1 W) : ∀ j, j < 10 → W.cell? ⟨0, j, none⟩ = some (.int .i64 (baseL.getD j 0)) := by
  rw [MakeChecks.laidMetH_plain _ _ _ (by kernel_rfl)] at h
  obtain ⟨ps, ⟨g0, t0, cs0, f0, p0, q0, hg0, ht0, hv0, hd0, -⟩, -⟩ := h
  obtain rfl := Option.some.inj (gBase.symm.trans hg0)
  obtain rfl := Option.some.inj (tBase.symm.trans ht0)
  intro j hj
  have h1 := World.var?_cell hg0 hv0 j
  have h2 := laid_ints (zs := baseL) Tryd.underlying140 Tryd.underlying3 c3 c140 hd0 j hj
  rw [h1, ← h2]
  simp
theorem globals_ok {W : World} (h : laidMetH Tryd.prog laid1 W) (g : Nat) : R (bareK W (fun _ => False)) (G0 g) (.pointer (some ⟨g, 0, none⟩)) := by
  unfold G0
  split
  · rename_i e
    subst e
    have hc := of_laid h
    refine .cptr _ 0 0 (fun j => .int .i64 (baseL.getD j 0)) (fun q => q) (World.lt_of_cell (hc 0 (by decide))) (by simp only [go_sem, ↓op_move, ↓op_assign, ↓op_pick, ↓op_alloc, ↓op_box, ↓op_build, ↓op_buildSlice, ↓op_load, ↓op_store, ↓op_nilCheck, ↓op_bin, ↓op_un, ↓op_convert, ↓op_makeFunc, ↓op_makeSlice, ↓op_slice, ↓op_fieldAddr, ↓op_field, ↓op_indexAddr, ↓op_index, ↓op_extract, ↓op_range, ↓op_next, ↓op_call, ↓op_builtin, ↓g_tt, ↓g_ff, ↓g_tf, ↓g_ft, ↓g_tnt, ↓g_tnf, ↓g_fnt, ↓g_fnf]) (fun j hj => ?_) (fun j v hv => ?_)
    · rw [Nat.zero_add]; exact hc j hj
    · have e : [V.int .i64 10, .int .i64 13, .int .i64 16, .int .i64 20, .int .i64 25, .int .i64 32, .int .i64 40, .int .i64 50, .int .i64 63, .int .i64 79] = baseL.map (V.int .i64) := rfl
      rw [e, List.getElem?_map] at hv
      cases hb : baseL[j]? with
      | none => rw [hb] at hv; cases hv
      | some z =>
        rw [hb] at hv
        cases hv
        rw [List.getD_eq_getElem?_getD, hb]
        exact .int _ _
  · exact .top _

/-- An argument that is a struct, one that is a slice. -/
theorem agg_arg {P : Program} {W : World} {base : Nat} {t : TypeId} {fs : Array Field} {sz : Nat} {S : List V → Prop} {H : Type} {enc : TypeId × Value → H} {v : Value} {d : DataW H} {ps : List MemPlace}
    (ht : P.underlying t = some (.struct fs)) (hr : Reads P W t sz S) (hv : Value.okWide P W .any base t v) (h : DataW.Trod enc P W 0 (fun _ => true) true t v d ps) : ∃ g, S g ∧ Pu (.agg g) ∧ R (bareK W (fun _ => False)) (.agg g) v := by
  unfold Value.okWide at hv
  rw [ht] at hv
  obtain ⟨cs, rfl, -, -⟩ := hv
  obtain ⟨fuel, hf⟩ := h
  obtain ⟨g, h1, h2, h3, h4, h5⟩ := hr H enc true fuel _ _ hf
  refine ⟨g, h5, pu_agg.2 h3, .agg _ _ ?_ fun j v hv => ?_⟩
  · have : cs.toList.length = sz := h1
    rw [h2, ← this, Array.length_toList]
  · have := h4 j v hv
    have e : cs.toList.getD j undef = cs.getD j undef := by simp [Array.getD_eq_getD_getElem?, List.getD_eq_getElem?_getD]
    have e2 : (Value.cells (.agg cs)).toList = cs.toList := rfl
    rw [e2, e] at this
    exact this
theorem sl_arg {P : Program} {W : World} {base : Nat} {t e : TypeId} {S : List V → Prop} {H : Type} {enc : TypeId × Value → H} {v : Value} {d : DataW H} {ps : List MemPlace}
    (ht : P.underlying t = some (.slice e)) (hr : Reads P W t 1 S) (hv : Value.okWide P W .any base t v) (h : DataW.Trod enc P W 0 (fun _ => true) true t v d ps) : ∃ a, S [a] ∧ Pu a ∧ R (bareK W (fun _ => False)) a v := by
  obtain ⟨a0, len, cap, rfl⟩ := okWide_slice ht hv
  obtain ⟨fuel, hf⟩ := h
  obtain ⟨g, h1, h2, h3, h4, h5⟩ := hr H enc true fuel _ _ hf
  match g, h2 with
  | [a], _ => exact ⟨a, h5, h3 a (by simp), h4 0 a rfl⟩

theorem lifted (os : Os) (started : os.Started) (H : Type) (enc : TypeId × Value → H) :
    ReturnsInHanded {} Tryd.checked os 3 .any (fun w args => (Rows.topChimeThroughSpec.pre enc Tryd.prog Tryd.f3 [] false w args ∧ laidMetH Tryd.prog laid1 w) ∧ sizedMet enc Tryd.prog Tryd.f3 (OpenSpec.ofChange Rows.topChimeThroughSpec) false w args)
      (Rows.topChimeThroughSpec.post enc Tryd.prog Tryd.f3 false true false false) := by
  refine returnsInHanded_of_change_and (C := Tryd.checked) (X := fun w _ => laidMetH Tryd.prog laid1 w) (fun _ _ _ hh h => h.of_heap hh) own started (by kernel_rfl) Tryd.func3
    (ChangeSpec.witness_shaped (enc := enc) (C := Tryd.checked) (os := os) (X := fun w _ => laidMetH Tryd.prog laid1 w) false (World.doorLaid Tryd.prog 400 os)
      #[.agg #[.string ByteArray.empty, .slice none 0 0, .int .i64 0, .int .i64 0, .int .i64 0, .int .i64 0, .int .i64 0, .int .i64 0, .int .i64 0, .int .i64 0, .int .i64 0, .slice none 0 0, .slice none 0 0], .slice none 0 0,
        .agg #[.int .i64 0, .int .i64 0, .int .i64 0, .int .i64 0, .int .i64 0, .int .i64 0, .int .i64 0, .int .i64 0, .int .i64 0]] 8 rfl (World.shaped_of_RefB (by kernel_rfl) (by kernel_rfl)) (by kernel_rfl) (by kernel_rfl) (by kernel_rfl) (door_met os _)) ?_
  intro W base args ds gs before hval0 hW _ _ hL _
  have hval : ∀ (j : Nat) t v, Tryd.f3.params[j]? = some t → args[j]? = some v → Value.okWide Tryd.prog W .any base t v := hval0
  have hW' := hW
  obtain ⟨p, q, hA0, hV, rfl, hfz, hnd⟩ := hW
  have hA : DataW.TrodAll enc Tryd.prog W 0 (fun _ => true) true Tryd.f3.params.toList args.toList ds p := hA0
  have hplt := hA.lt
  rw [Tryd.params3] at hA hval
  obtain ⟨v0, v1, v2, d0, d1, d2, p0, p1, p2, hargs, rfl, rfl, h0, h1, h2⟩ := trodAll_three hA
  subst hargs
  obtain ⟨rfl, rfl⟩ := trodVars_none hV
  obtain ⟨g0, s0, u0, r0⟩ := agg_arg Tryd.underlying26 (rType W) (hval 0 26 v0 rfl rfl) h0
  obtain ⟨a1, s1, u1, r1⟩ := sl_arg Tryd.underlying27 (rAirs W) (hval 1 27 v1 rfl rfl) h1
  obtain ⟨g2, s2, u2, r2⟩ := agg_arg Tryd.underlying35 (rHeard W) (hval 2 35 v2 rfl rfl) h2
  obtain ⟨s, ns, gs, e0, e1, e2, e3, e4, e5, e6, e7, side, nq, gq, m, gt, hs, hns, hq, hm, rfl⟩ := s0
  obtain ⟨n, get, hair, ha1⟩ := s1
  obtain ⟨rfl⟩ : a1 = .sl n 5 get := by simpa using ha1
  obtain ⟨x, y, z, hx, hy, pw, ax, ay, az, hz, rfl⟩ := s2
  clear hA0 hval0
  have key := tThrough_ok (0, 0) [.agg [.str s, .sl ns 1 gs, .int .i64 e0, .int .i64 e1, .int .i64 e2, .int .i64 e3, .int .i64 e4, .int .i64 e5, .int .i64 e6, .int .i64 e7, .int .i64 side, .sl nq 1 gq, .sl m 2 gt], .sl n 5 get,
    .agg [.int .i64 x, .int .i64 y, .int .i64 z, .int .i64 hx, .int .i64 hy, .int .i64 pw, .int .i64 ax, .int .i64 ay, .int .i64 az]] W (fun _ => False) #[v0, v1, v2] (fun _ h => h.elim) (globals_ok hL)
    (fun a ha => by
      simp only [List.mem_cons, List.not_mem_nil, or_false] at ha
      rcases ha with rfl | rfl | rfl
      · exact u0
      · exact u1
      · exact u2)
    ⟨rfl, fun j v hv => by
      match j, hv with
      | 0, hv => cases hv; exact r0
      | 1, hv => cases hv; exact r1
      | 2, hv => cases hv; exact r2
      | j + 3, hv => simp at hv⟩
    ⟨rfl, rfl, rfl, hns, hq, hm, hs, rfl, hair, hz⟩
  refine key.mono fun e W' ⟨rv, B, he, hst, _, hr⟩ => ?_
  have hr : R _ (.bool true) rv := hr
  obtain rfl := hr.bool_inv
  have hno : ∀ b, ¬ (bareK W fun _ => False).owned b := fun b ⟨l, o, c, h, _⟩ => by cases h
  have hb : Below W.heap.size W W' := ⟨hst.os, hst.tape, hst.output, hst.size, fun k hk => hst.keep k hk (hno k)⟩
  have lt0 : ∀ x ∈ p0, x.block < W.heap.size := fun x hx => hplt x (by simp [hx])
  have lt1 : ∀ x ∈ p1, x.block < W.heap.size := fun x hx => hplt x (by simp [hx])
  have lt2 : ∀ x ∈ p2, x.block < W.heap.size := fun x hx => hplt x (by simp [hx])
  refine ⟨_, he, [d0, d1, d2], [], _, [], p0 ++ (p1 ++ p2), [], hW', ?_, ?_, ?_, hb.frame _, fun h => by cases h⟩
  · exact trodAll_mk1 (shut_bool Tryd.underlying4 true)
  · exact trodAll_mk3 (hb.trod laidOut read26 row26 h0 lt0) (hb.trod laidOut read27 row27 h1 lt1) (hb.trod laidOut read35 row35 h2 lt2)
  · exact rfl

theorem said : Rows.TopChimeThroughSaid :=
  OpenClaim.holds_of_wide 3 Tryd.f3 rfl rfl rfl rfl rfl rfl rfl ⟨rfl, rfl, rfl, rfl, rfl⟩ rfl rfl rfl rfl rfl (by kernel_rfl) Tryd.func3 (by kernel_rfl)
    (of_decide_eq_true (by kernel_rfl)) (by unfold Func.isWrapper; rw [if_neg (of_decide_eq_false (by kernel_rfl))]; exact ⟨rfl, rfl⟩)
    (fun os started H enc _ => lifted os started H enc)

/-- The tied card. -/
theorem card_holds : Rows.TopChimeThroughCardSaid :=
  Claim7.holds_tied_plain_at .later [] [.data] true (true, "9a4117155a15782a9b3e1740069a34fcbab7de33ed568ef1ffc6b1cfaaae380c") false
    said (fun _ h => by cases h) (by kernel_rfl) (fun _ h => by cases h) topChimeThrough_row_tie rfl ⟨rfl, rfl⟩ (by kernel_rfl) rfl
    (fun f fn hf hfn => by
      obtain rfl : f = 3 := Option.some.inj ((show Tryd.prog.funcNamed "flyover/flyovertop.TopChimeThrough" = some 3 by kernel_rfl).symm.trans hf) |>.symm
      obtain rfl : fn = Tryd.f3 := (Option.some.inj (Tryd.func3.symm.trans hfn)).symm
      exact ⟨by kernel_rfl, fun j t ht => by
        rw [Tryd.params3] at ht
        have hm : t ∈ [26, 27, 35] := by simpa using Array.mem_of_getElem? ht
        have hall : ([26, 27, 35].all fun u => !Tryd.prog.wantsStandIn u) = true := by kernel_rfl
        exact (show Tryd.prog.wantsStandIn t = false by simpa using List.all_eq_true.1 hall t hm)⟩)
    (by kernel_rfl)
#print axioms card_holds
end Go.Proofs.YtlfciglmhomdpaaDoor
