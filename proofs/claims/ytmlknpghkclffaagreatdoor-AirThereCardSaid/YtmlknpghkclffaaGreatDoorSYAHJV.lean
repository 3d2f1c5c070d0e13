/- PROVED: for every input, 'flyoverlaw03.AirThere' returns true, and its arguments read behind the call as they did. Conditions: those of the given row, none beside. The card ties the listed variables to the program's text (a pruned copy). -/
import Derived.Test.YtmlknpghkclffaaGreatDoorSYAHU4
import Derived.Test.YtmlknpghkclffaaGreatDoorSYAHJ
import Derived.Test.YtmlknpghkclffaaGreatDoorCards
import Derived.Test.YtmlknpghkclffaaGreatDoorTie
set_option linter.unusedSimpArgs false
set_option linter.unusedVariables false
set_option maxRecDepth 100000
namespace Go.Proofs.YtmlknpghkclffaaGreatDoor
open Go Go.ChangeShapes Go.WideShapes Go.RowKit Go.Fly Go.Fly.Tryz

theorem own : ownKnob Tryz.prog.godebug = none := by kernel_rfl
theorem read22 : Tryz.prog.readableRec 22 = true := by kernel_rfl
theorem row22 : 22 < Tryz.prog.types.size := of_decide_eq_true (by kernel_rfl)
theorem read47 : Tryz.prog.readableRec 47 = true := by kernel_rfl
theorem row47 : 47 < Tryz.prog.types.size := of_decide_eq_true (by kernel_rfl)
abbrev laid4 : List (String × DataW Unit) := [("math/bits.deBruijn32tab", Rows.laid_math_bits_deBruijn32tab), ("math/bits.deBruijn64tab", Rows.laid_math_bits_deBruijn64tab), ("internal/strconv.uint64pow10", Rows.laid_internal_strconv_uint64pow10), ("flyover/air.heads", Rows.laid_flyover_air_heads)]
/-- The door's own heap meets the condition. -/
theorem door_met (os : Os) (args : Array Value) : laidMetH Tryz.prog laid4 ((World.doorLaid Tryz.prog 400 os).forCall (fun _ _ => 0) ⟨#[], args, []⟩).memory :=
  laidMetH_of_parts3 (fuel := 8) (laidMet_of_run' 8 (by kernel_rfl) (by kernel_rfl)) (by kernel_rfl) (by kernel_rfl)
theorem globals_ok {W : World} (h : laidMetH Tryz.prog laid4 W) (g : Nat) : R (bareK W (fun _ => False)) (G0 g) (.pointer (some ⟨g, 0, none⟩)) := by
  rw [MakeChecks.laidMetH_plain _ _ _ (by kernel_rfl)] at h
  obtain ⟨ps, ⟨_, _, _, _, _, _, _, _, _, _, ⟨_, _, _, _, _, _, _, _, _, _, ⟨g2, t2, c2, f2, p2, q2, hg2, ht2, hv2, hd2, ⟨g3, t3, c3, f3, p3, q3, hg3, ht3, hv3, hd3, -⟩, -⟩, -⟩, -⟩, -⟩ := h
  obtain rfl := Option.some.inj (gPow.symm.trans hg2)
  obtain rfl := Option.some.inj (tPow.symm.trans ht2)
  obtain rfl := Option.some.inj (gHeads.symm.trans hg3)
  obtain rfl := Option.some.inj (tHeads.symm.trans ht3)
  exact globals_of hv3 (heads_cells hd3) hv2 (pow_cells hd2) g

theorem lifted (os : Os) (started : os.Started) (H : Type) (enc : TypeId × Value → H) :
    ReturnsInHanded {} Tryz.checked os 9 .any (fun w args => (Rows.airThereSpec.pre enc Tryz.prog Tryz.f9 [] false w args ∧ laidMetH Tryz.prog laid4 w) ∧ sizedMet enc Tryz.prog Tryz.f9 (OpenSpec.ofChange Rows.airThereSpec) false w args)
      (Rows.airThereSpec.post enc Tryz.prog Tryz.f9 false true false false) := by
  refine returnsInHanded_of_change_and (C := Tryz.checked) (X := fun w _ => laidMetH Tryz.prog laid4 w) (fun _ _ _ hh h => h.of_heap hh) own started (by kernel_rfl) Tryz.func9
    (ChangeSpec.witness_shaped (enc := enc) (C := Tryz.checked) (os := os) (X := fun w _ => laidMetH Tryz.prog laid4 w) false (World.doorLaid Tryz.prog 400 os)
      #[.slice none 0 0, .agg #[.int .i64 0, .int .i64 0, .int .i64 0, .int .i64 0, .int .i64 0, .int .i64 0]] 8 rfl (World.shaped_of_RefB (by kernel_rfl) (by kernel_rfl)) (by kernel_rfl) (by kernel_rfl) (by kernel_rfl) (door_met os _)) ?_
  intro W base args ds gs before hval0 hW _ _ hL _
  have hval : ∀ (j : Nat) t v, Tryz.f9.params[j]? = some t → args[j]? = some v → Value.okWide Tryz.prog W .any base t v := hval0
  have hW' := hW
  obtain ⟨p, q, hA0, hV, rfl, hfz, hnd⟩ := hW
  have hA : DataW.TrodAll enc Tryz.prog W 0 (fun _ => true) true Tryz.f9.params.toList args.toList ds p := hA0
  have hplt := hA.lt
  rw [Tryz.params9] at hA hval
  obtain ⟨v0, v1, d0, d1, p0, p1, hargs, rfl, rfl, h0, h1⟩ := trodAll_two hA
  subst hargs
  obtain ⟨rfl, rfl⟩ := trodVars_none hV
  obtain ⟨a0, s0, u0, r0⟩ := sl_arg Tryz.underlying22 (rAirs W) (hval 0 22 v0 rfl rfl) h0
  obtain ⟨n, get, hair, ha0⟩ := s0
  obtain ⟨rfl⟩ : a0 = .sl n 5 get := by simpa using ha0
  obtain ⟨g1, s1, u1, r1⟩ := agg_arg Tryz.underlying47 (rPath W) (hval 1 47 v1 rfl rfl) h1
  obtain ⟨a, b, c, d, e, f, rfl⟩ := s1
  clear hA0 hval0
  have key := wThere_ok (0, 0) [.sl n 5 get, .agg [.int .i64 a, .int .i64 b, .int .i64 c, .int .i64 d, .int .i64 e, .int .i64 f]] W (fun _ => False) #[v0, v1] (fun _ h => h.elim) (globals_ok hL)
    (fun a ha => by
      simp only [List.mem_cons, List.not_mem_nil, or_false] at ha
      rcases ha with rfl | rfl
      · exact u0
      · exact u1)
    ⟨rfl, fun j v hv => by
      match j, hv with
      | 0, hv => cases hv; exact r0
      | 1, hv => cases hv; exact r1
      | j + 2, hv => simp at hv⟩
    ⟨rfl, hair⟩
  refine key.mono fun e W' ⟨rv, B, he, hst, _, hr⟩ => ?_
  have hr : R _ (.bool true) rv := hr
  obtain rfl := hr.bool_inv
  have hno : ∀ b, ¬ (bareK W fun _ => False).owned b := fun b ⟨l, o, c, h, _⟩ => by cases h
  have hb : Below W.heap.size W W' := ⟨hst.os, hst.tape, hst.output, hst.size, fun k hk => hst.keep k hk (hno k)⟩
  have lt0 : ∀ x ∈ p0, x.block < W.heap.size := fun x hx => hplt x (by simp [hx])
  have lt1 : ∀ x ∈ p1, x.block < W.heap.size := fun x hx => hplt x (by simp [hx])
  refine ⟨_, he, [d0, d1], [], _, [], p0 ++ p1, [], hW', ?_, ?_, ?_, hb.frame _, fun h => by cases h⟩
  · exact trodAll_mk1 (shut_bool Tryz.underlying4 true)
  · exact trodAll_mk2 (hb.trod laidOut read22 row22 h0 lt0) (hb.trod laidOut read47 row47 h1 lt1)
  · exact rfl

theorem said : Rows.AirThereSaid :=
  OpenClaim.holds_of_wide 9 Tryz.f9 rfl rfl rfl rfl rfl rfl rfl ⟨rfl, rfl, rfl, rfl, rfl⟩ rfl rfl rfl rfl rfl (by kernel_rfl) Tryz.func9 (by kernel_rfl)
    (of_decide_eq_true (by kernel_rfl)) (by unfold Func.isWrapper; rw [if_neg (of_decide_eq_false (by kernel_rfl))]; exact ⟨rfl, rfl⟩)
    (fun os started H enc _ => lifted os started H enc)

/-- The tied card. -/
theorem card_holds : Rows.AirThereCardSaid :=
  Claim7.holds_tied_plain_at .later [] [.data, .data, .data, .data] true (true, "66d0582e18504ee9aac4bf1645eacc50a7efb963dd650fe83538e45d9cfbe65e") false
    said (fun _ h => by cases h) (by kernel_rfl) (fun _ h => by cases h) airThere_row_tie rfl ⟨rfl, rfl⟩ (by kernel_rfl) rfl
    (fun f fn hf hfn => by
      obtain rfl : f = 9 := Option.some.inj ((show Tryz.prog.funcNamed "flyover/flyoverlaw03.AirThere" = some 9 by kernel_rfl).symm.trans hf) |>.symm
      obtain rfl : fn = Tryz.f9 := (Option.some.inj (Tryz.func9.symm.trans hfn)).symm
      exact ⟨by kernel_rfl, fun j t ht => by
        rw [Tryz.params9] at ht
        have hm : t ∈ [22, 47] := by simpa using Array.mem_of_getElem? ht
        have hall : ([22, 47].all fun u => !Tryz.prog.wantsStandIn u) = true := by kernel_rfl
        exact (show Tryz.prog.wantsStandIn t = false by simpa using List.all_eq_true.1 hall t hm)⟩)
    (by kernel_rfl)
#print axioms card_holds
end Go.Proofs.YtmlknpghkclffaaGreatDoor
