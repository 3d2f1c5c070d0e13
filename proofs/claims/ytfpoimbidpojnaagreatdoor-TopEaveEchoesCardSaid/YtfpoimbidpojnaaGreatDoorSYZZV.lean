/- PROVED: for every input, 'flyovertop.TopEaveEchoes' returns true, and its arguments read behind the call as they did. Conditions: those of the given row, none beside. The card ties the listed variable to the program's text (a pruned copy). -/
import Derived.Test.YtfpoimbidpojnaaGreatDoorSYZZU
import Derived.Test.YtfpoimbidpojnaaGreatDoorCards
import Derived.Test.YtfpoimbidpojnaaGreatDoorTie
set_option linter.unusedSimpArgs false
set_option linter.unusedVariables false
set_option maxRecDepth 100000
namespace Go.Proofs.YtfpoimbidpojnaaGreatDoor
open Go Go.ChangeShapes Go.WideShapes Go.RowKit Go.Fly Go.Fly.Tryz

theorem own : ownKnob Tryz.prog.godebug = none := by kernel_rfl
theorem gPlaces : Tryz.prog.globalNamed "flyover/town.places" = some 0 := by kernel_rfl
theorem tPlaces : (Tryz.prog.globals[0]?).map (·.type) = some 143 := by kernel_rfl
theorem laidOut : laidOutB Tryz.prog = true := by kernel_rfl
theorem read28 : Tryz.prog.readableRec 28 = true := by kernel_rfl
theorem row28 : 28 < Tryz.prog.types.size := of_decide_eq_true (by kernel_rfl)

abbrev laid1 : List (String × DataW Unit) := [("flyover/town.places", Rows.laid_flyover_town_places)]
/-- The door's own heap meets the condition. -/
theorem door_met (os : Os) (args : Array Value) : laidMetH Tryz.prog laid1 ((World.doorLaid Tryz.prog 400 os).forCall (fun _ _ => 0) ⟨#[], args, []⟩).memory :=
  laidMetH_of_parts3 (fuel := 8) (laidMet_of_run' 8 (by kernel_rfl) (by kernel_rfl)) (by kernel_rfl) (by kernel_rfl)

def limV (g : FuncId) : List Value := [.func (.func g) #[] #[], .int .i64 (-1000), .int .i64 1000]
theorem lim0 {W : World} {m : Nat} {cs : List Value} {x : DataW (List UInt8) × List MemPlace} (h : DataW.trod (funcToken Tryz.prog) Tryz.prog W 0 (fun _ => true) true m 142 cs = some x) (hx : x.1 = .agg [.held [102, 108, 121, 111, 118, 101, 114, 47, 116, 111, 119, 110, 46, 112, 108, 97, 99, 101, 115, 36, 49], .lit (.int .i64 (-1000)), .lit (.int .i64 1000)]) : cs = limV 121 := by
  obtain ⟨a, q⟩ := x
  have hx : a = _ := hx
  subst hx
  exact limit_cells Tryz.underlying142 ⟨rfl, rfl⟩ ⟨rfl, rfl⟩ ⟨rfl, rfl⟩ c142 c140 c3 Tryz.underlying140 Tryz.underlying3 (by kernel_rfl) h
theorem lim1 {W : World} {m : Nat} {cs : List Value} {x : DataW (List UInt8) × List MemPlace} (h : DataW.trod (funcToken Tryz.prog) Tryz.prog W 0 (fun _ => true) true m 142 cs = some x) (hx : x.1 = .agg [.held [102, 108, 121, 111, 118, 101, 114, 47, 116, 111, 119, 110, 46, 112, 108, 97, 99, 101, 115, 36, 50], .lit (.int .i64 (-1000)), .lit (.int .i64 1000)]) : cs = limV 122 := by
  obtain ⟨a, q⟩ := x
  have hx : a = _ := hx
  subst hx
  exact limit_cells Tryz.underlying142 ⟨rfl, rfl⟩ ⟨rfl, rfl⟩ ⟨rfl, rfl⟩ c142 c140 c3 Tryz.underlying140 Tryz.underlying3 (by kernel_rfl) h
theorem lim2 {W : World} {m : Nat} {cs : List Value} {x : DataW (List UInt8) × List MemPlace} (h : DataW.trod (funcToken Tryz.prog) Tryz.prog W 0 (fun _ => true) true m 142 cs = some x) (hx : x.1 = .agg [.held [102, 108, 121, 111, 118, 101, 114, 47, 116, 111, 119, 110, 46, 112, 108, 97, 99, 101, 115, 36, 51], .lit (.int .i64 (-1000)), .lit (.int .i64 1000)]) : cs = limV 123 := by
  obtain ⟨a, q⟩ := x
  have hx : a = _ := hx
  subst hx
  exact limit_cells Tryz.underlying142 ⟨rfl, rfl⟩ ⟨rfl, rfl⟩ ⟨rfl, rfl⟩ c142 c140 c3 Tryz.underlying140 Tryz.underlying3 (by kernel_rfl) h
theorem lim3 {W : World} {m : Nat} {cs : List Value} {x : DataW (List UInt8) × List MemPlace} (h : DataW.trod (funcToken Tryz.prog) Tryz.prog W 0 (fun _ => true) true m 142 cs = some x) (hx : x.1 = .agg [.held [102, 108, 121, 111, 118, 101, 114, 47, 116, 111, 119, 110, 46, 112, 108, 97, 99, 101, 115, 36, 52], .lit (.int .i64 (-1000)), .lit (.int .i64 1000)]) : cs = limV 124 := by
  obtain ⟨a, q⟩ := x
  have hx : a = _ := hx
  subst hx
  exact limit_cells Tryz.underlying142 ⟨rfl, rfl⟩ ⟨rfl, rfl⟩ ⟨rfl, rfl⟩ c142 c140 c3 Tryz.underlying140 Tryz.underlying3 (by kernel_rfl) h
/-- What the condition gives: the variable's cells. -/
theorem of_laid {W : World} (h : laidMetH Tryz.prog laid1 W) : ∀ j, j < 12 → W.cell? ⟨0, j, none⟩ = some ((limV 121 ++ (limV 122 ++ (limV 123 ++ limV 124))).getD j undef) := by
  obtain ⟨g, t, cs, fuel, p, hg, ht, hv, hd⟩ := h.funcs (List.mem_singleton.2 rfl)
  obtain rfl := Option.some.inj (gPlaces.symm.trans hg)
  obtain rfl := Option.some.inj (tPlaces.symm.trans ht)
  have hd' : DataW.trod (funcToken Tryz.prog) Tryz.prog W 0 (fun _ => true) true fuel 143 cs.toList = some (.agg [.agg [.held [102, 108, 121, 111, 118, 101, 114, 47, 116, 111, 119, 110, 46, 112, 108, 97, 99, 101, 115, 36, 49], .lit (.int .i64 (-1000)), .lit (.int .i64 1000)], .agg [.held [102, 108, 121, 111, 118, 101, 114, 47, 116, 111, 119, 110, 46, 112, 108, 97, 99, 101, 115, 36, 50], .lit (.int .i64 (-1000)), .lit (.int .i64 1000)], .agg [.held [102, 108, 121, 111, 118, 101, 114, 47, 116, 111, 119, 110, 46, 112, 108, 97, 99, 101, 115, 36, 51], .lit (.int .i64 (-1000)), .lit (.int .i64 1000)], .agg [.held [102, 108, 121, 111, 118, 101, 114, 47, 116, 111, 119, 110, 46, 112, 108, 97, 99, 101, 115, 36, 52], .lit (.int .i64 (-1000)), .lit (.int .i64 1000)]], p) := hd
  have hc := limits_cells Tryz.underlying143 c142 c143 (fun m cs x hx => ⟨fun e => lim0 hx e, fun e => lim1 hx e, fun e => lim2 hx e, fun e => lim3 hx e⟩) hd'
  intro j hj
  have h1 := World.var?_cell hg hv j
  rw [h1]
  have e : cs[j]? = cs.toList[j]? := by simp
  rw [e, hc]
  rw [List.getD_eq_getElem?_getD]
  have hl : j < (limV 121 ++ (limV 122 ++ (limV 123 ++ limV 124))).length := hj
  rw [List.getElem?_eq_getElem hl]; rfl
theorem globals_ok {W : World} (h : laidMetH Tryz.prog laid1 W) (g : Nat) : R (bareK W (fun _ => False)) (G0 g) (.pointer (some ⟨g, 0, none⟩)) := by
  unfold G0
  split
  · rename_i e
    subst e
    have hc := of_laid h
    refine .cptr _ 0 0 (fun j => (limV 121 ++ (limV 122 ++ (limV 123 ++ limV 124))).getD j undef) (fun q => q) (World.lt_of_cell (hc 0 (by decide))) (by simp only [go_sem, ↓op_move, ↓op_assign, ↓op_pick, ↓op_alloc, ↓op_box, ↓op_build, ↓op_buildSlice, ↓op_load, ↓op_store, ↓op_nilCheck, ↓op_bin, ↓op_un, ↓op_convert, ↓op_makeFunc, ↓op_makeSlice, ↓op_slice, ↓op_fieldAddr, ↓op_field, ↓op_indexAddr, ↓op_index, ↓op_extract, ↓op_lookup, ↓op_mapUpdate, ↓op_makeMap, ↓op_range, ↓op_next, ↓op_call, ↓op_builtin, ↓g_tt, ↓g_ff, ↓g_tf, ↓g_ft, ↓g_tnt, ↓g_tnf, ↓g_fnt, ↓g_fnf, ↓mkT_getD]) (fun j hj => ?_) (fun j v hv => ?_)
    · rw [Nat.zero_add]; exact hc j hj
    · have fnR : ∀ f : FuncId, R (bareK W (fun _ => False)) (.fn (.func f) [] []) (.func (.func f) #[] #[]) := fun f => .fn _ _ _ _ _ rfl rfl (fun j v hv => by simp at hv) (fun j v hv => by simp at hv)
      match j, hv with
      | 0, hv => cases hv; exact fnR _
      | 1, hv => cases hv; exact .int _ _
      | 2, hv => cases hv; exact .int _ _
      | 3, hv => cases hv; exact fnR _
      | 4, hv => cases hv; exact .int _ _
      | 5, hv => cases hv; exact .int _ _
      | 6, hv => cases hv; exact fnR _
      | 7, hv => cases hv; exact .int _ _
      | 8, hv => cases hv; exact .int _ _
      | 9, hv => cases hv; exact fnR _
      | 10, hv => cases hv; exact .int _ _
      | 11, hv => cases hv; exact .int _ _
      | j + 12, hv => simp at hv
  · exact .top _

/-- An argument that is a struct, one that is a slice. -/
theorem agg_arg {P : Program} {W : World} {base : Nat} {t : TypeId} {fs : Array Field} {sz : Nat} {S : List V → Prop} {H : Type} {enc : TypeId × Value → H} {v : Value} {d : DataW H} {ps : List MemPlace}
    (ht : P.underlying t = some (.struct fs)) (hr : Reads P W t sz S) (hv : Value.okWide P W .any base t v) (h : DataW.Trod enc P W 0 (fun _ => true) true t v d ps) : ∃ g, S g ∧ Pu (.agg g) ∧ R (bareK W (fun _ => False)) (.agg g) v := by
  unfold Value.okWide at hv
  rw [ht] at hv
  obtain ⟨cs, rfl, -, -⟩ := hv
  obtain ⟨fuel, hf⟩ := h
  obtain ⟨g, h1, h2, h3, h4, h5⟩ := hr H enc true fuel _ _ hf
  refine ⟨g, h5, pu_agg.2 h3, .agg _ _ ?_ fun j v hv => ?_⟩
  · have : cs.toList.length = sz := h1
    rw [h2, ← this, Array.length_toList]
  · have := h4 j v hv
    have e : cs.toList.getD j undef = cs.getD j undef := by simp [Array.getD_eq_getD_getElem?, List.getD_eq_getElem?_getD]
    have e2 : (Value.cells (.agg cs)).toList = cs.toList := rfl
    rw [e2, e] at this
    exact this
theorem sl_arg {P : Program} {W : World} {base : Nat} {t e : TypeId} {S : List V → Prop} {H : Type} {enc : TypeId × Value → H} {v : Value} {d : DataW H} {ps : List MemPlace}
    (ht : P.underlying t = some (.slice e)) (hr : Reads P W t 1 S) (hv : Value.okWide P W .any base t v) (h : DataW.Trod enc P W 0 (fun _ => true) true t v d ps) : ∃ a, S [a] ∧ Pu a ∧ R (bareK W (fun _ => False)) a v := by
  obtain ⟨a0, len, cap, rfl⟩ := okWide_slice ht hv
  obtain ⟨fuel, hf⟩ := h
  obtain ⟨g, h1, h2, h3, h4, h5⟩ := hr H enc true fuel _ _ hf
  match g, h2 with
  | [a], _ => exact ⟨a, h5, h3 a (by simp), h4 0 a rfl⟩

theorem lifted (os : Os) (started : os.Started) (H : Type) (enc : TypeId × Value → H) :
    ReturnsInHanded {} Tryz.checked os 3 .any (fun w args => (Rows.topEaveEchoesSpec.pre enc Tryz.prog Tryz.f3 [] false w args ∧ laidMetH Tryz.prog laid1 w) ∧ sizedMet enc Tryz.prog Tryz.f3 (OpenSpec.ofChange Rows.topEaveEchoesSpec) false w args)
      (Rows.topEaveEchoesSpec.post enc Tryz.prog Tryz.f3 false true false false) := by
  refine returnsInHanded_of_change_and (C := Tryz.checked) (X := fun w _ => laidMetH Tryz.prog laid1 w) (fun _ _ _ hh h => h.of_heap hh) own started (by kernel_rfl) Tryz.func3
    (ChangeSpec.witness_shaped (enc := enc) (C := Tryz.checked) (os := os) (X := fun w _ => laidMetH Tryz.prog laid1 w) false (World.doorLaid Tryz.prog 400 os)
      #[.agg #[.slice none 0 0, .slice none 0 0, .slice none 0 0, .int .i64 0, .int .i64 0, .int .i64 0, .int .i64 0, .int .i64 0, .int .i64 0, .int .i64 0]] 8 rfl (World.shaped_of_RefB (by kernel_rfl) (by kernel_rfl)) (by kernel_rfl) (by kernel_rfl) (by kernel_rfl) (door_met os _)) ?_
  intro W base args ds gs before hval0 hW _ _ hL _
  have hval : ∀ (j : Nat) t v, Tryz.f3.params[j]? = some t → args[j]? = some v → Value.okWide Tryz.prog W .any base t v := hval0
  have hW' := hW
  obtain ⟨p, q, hA0, hV, rfl, hfz, hnd⟩ := hW
  have hA : DataW.TrodAll enc Tryz.prog W 0 (fun _ => true) true Tryz.f3.params.toList args.toList ds p := hA0
  have hplt := hA.lt
  rw [Tryz.params3] at hA hval
  obtain ⟨v0, d0, hargs, rfl, h0⟩ := trodAll_one hA
  subst hargs
  obtain ⟨rfl, rfl⟩ := trodVars_none hV
  obtain ⟨g0, s0, u0, r0⟩ := agg_arg Tryz.underlying28 (rTown W) (hval 0 28 v0 rfl rfl) h0
  obtain ⟨nw, gw, nt, gt, na, ga, a, b, c, d, e, f, en, hw, ht, ha, rfl⟩ := s0
  clear hA0 hval0
  have key := vEch_ok (0, 0) [.agg [.sl nw 7 gw, .sl nt 2 gt, .sl na 5 ga, .int .i64 a, .int .i64 b, .int .i64 c, .int .i64 d, .int .i64 e, .int .i64 f, .int .i64 en]] W (fun _ => False) #[v0] (fun _ h => h.elim) (globals_ok hL)
    (fun a ha => by
      simp only [List.mem_cons, List.not_mem_nil, or_false] at ha
      subst ha
      exact u0)
    ⟨rfl, fun j v hv => by
      match j, hv with
      | 0, hv => cases hv; exact r0
      | j + 1, hv => simp at hv⟩
    ⟨⟨rfl, rfl, rfl⟩, hw, ht, ha⟩
  refine key.mono fun e W' ⟨rv, B, he, hst, _, hr⟩ => ?_
  have hr : R _ (.bool true) rv := hr
  obtain rfl := hr.bool_inv
  have hno : ∀ b, ¬ (bareK W fun _ => False).owned b := fun b ⟨l, o, c, h, _⟩ => by cases h
  have hb : Below W.heap.size W W' := ⟨hst.os, hst.tape, hst.output, hst.size, fun k hk => hst.keep k hk (hno k)⟩
  refine ⟨_, he, [d0], [], _, [], p, [], hW', ?_, ?_, ?_, hb.frame _, fun h => by cases h⟩
  · exact trodAll_mk1 (shut_bool Tryz.underlying4 true)
  · exact trodAll_mk1 (hb.trod laidOut read28 row28 h0 hplt)
  · exact rfl

theorem said : Rows.TopEaveEchoesSaid :=
  OpenClaim.holds_of_wide 3 Tryz.f3 rfl rfl rfl rfl rfl rfl rfl ⟨rfl, rfl, rfl, rfl, rfl⟩ rfl rfl rfl rfl rfl (by kernel_rfl) Tryz.func3 (by kernel_rfl)
    (of_decide_eq_true (by kernel_rfl)) (by unfold Func.isWrapper; rw [if_neg (of_decide_eq_false (by kernel_rfl))]; exact ⟨rfl, rfl⟩)
    (fun os started H enc _ => lifted os started H enc)

/-- The tied card. -/
theorem card_holds : Rows.TopEaveEchoesCardSaid :=
  Claim7.holds_tied_plain_at .later [] [.funcs] true (true, "04f518f3d01aa975fd99dc19582004ca98be4a5287e1c54ecf07f494772baf17") false
    said (fun _ h => by cases h) (by kernel_rfl) (fun _ h => by cases h) topEaveEchoes_row_tie rfl ⟨rfl, rfl⟩ (by kernel_rfl) rfl
    (fun f fn hf hfn => by
      obtain rfl : f = 3 := Option.some.inj ((show Tryz.prog.funcNamed "flyover/flyovertop.TopEaveEchoes" = some 3 by kernel_rfl).symm.trans hf) |>.symm
      obtain rfl : fn = Tryz.f3 := (Option.some.inj (Tryz.func3.symm.trans hfn)).symm
      exact ⟨by kernel_rfl, fun j t ht => by
        rw [Tryz.params3] at ht
        have hm : t ∈ [28] := by simpa using Array.mem_of_getElem? ht
        have hall : ([28].all fun u => !Tryz.prog.wantsStandIn u) = true := by kernel_rfl
        exact (show Tryz.prog.wantsStandIn t = false by simpa using List.all_eq_true.1 hall t hm)⟩)
    (by kernel_rfl)
#print axioms card_holds
end Go.Proofs.YtfpoimbidpojnaaGreatDoor
