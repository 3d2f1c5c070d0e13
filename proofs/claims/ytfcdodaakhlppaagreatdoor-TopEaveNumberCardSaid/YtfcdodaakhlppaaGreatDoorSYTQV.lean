/- Part of a proof: an evaluator of the model's code by abstract values, and plain laws for it. No conditions. -/
import Derived.Test.YtfcdodaakhlppaaGreatDoorSYTPK
import Derived.Test.YtfcdodaakhlppaaGreatDoorAX
import Derived.Test.YtfcdodaakhlppaaGreatDoorRows
import Derived.ProofKit
import Derived.LaidMore
import Derived.Stop.Joined
import Derived.ChangeArms
import Derived.Test.YtfcdodaakhlppaaGreatDoorCards
import Derived.Test.YtfcdodaakhlppaaGreatDoorTie
set_option linter.unusedSimpArgs false
set_option linter.unusedVariables false
section
/- The law on the number of a house, from the data that a call is handed. -/
set_option maxRecDepth 100000
namespace Go.Fly.Tryz
open Go Go.ChangeShapes Go.WideShapes Go.RowKit Off

theorem c3 : Proofs.Tryz.prog.cellsOf 3 = 1 := by kernel_rfl
theorem c4 : Proofs.Tryz.prog.cellsOf 4 = 1 := by kernel_rfl
theorem c5 : Proofs.Tryz.prog.cellsOf 5 = 1 := by kernel_rfl
theorem c9 : Proofs.Tryz.prog.cellsOf 9 = 1 := by kernel_rfl
theorem c31 : Proofs.Tryz.prog.cellsOf 31 = 1 := by kernel_rfl
theorem c56 : Proofs.Tryz.prog.cellsOf 56 = 3 := by kernel_rfl
theorem c57 : Proofs.Tryz.prog.cellsOf 57 = 1 := by kernel_rfl
theorem c226 : Proofs.Tryz.prog.cellsOf 226 = 2 := by kernel_rfl
theorem c347 : Proofs.Tryz.prog.cellsOf 347 = 10 := by kernel_rfl

theorem Reads.mono {P : Program} {W : World} {t : TypeId} {sz : Nat} {S S' : List V → Prop} (h : Reads P W t sz S) (hs : ∀ g, S g → S' g) : Reads P W t sz S' := fun H enc held fuel cs x hx => by
  obtain ⟨g, h1, h2, h3, h4, h5⟩ := h H enc held fuel cs x hx
  exact ⟨g, h1, h2, h3, h4, hs g h5⟩
theorem reads_intK {P : Program} {W : World} {t : TypeId} {k : IntKind} (ht : P.underlying t = some (.int k)) : Reads P W t 1 (fun g => ∃ n, inK k n ∧ g = [.int k n]) := by
  intro H enc held fuel cs x h
  obtain ⟨n, rfl, -, hw⟩ := DataW.trod_int ht h
  refine ⟨[.int k n], rfl, rfl, fun v hv => ?_, fun j v hv => ?_, n, ?_, rfl⟩
  · rw [List.mem_singleton] at hv; subst hv; exact .int _ _
  · rcases j with _ | j
    · cases hv; exact .int _ _
    · simp at hv
  · simp only [Lit.wf, Bool.and_eq_true, decide_eq_true_eq] at hw
    exact hw
theorem inK_u16 (n : Int) : inK .u16 n ↔ 0 ≤ n ∧ n ≤ 65535 := by simp [inK, IntKind.min, IntKind.max, IntKind.bits, IntKind.signed]
def SK (k : IntKind) : List V → Prop := fun g => ∃ n, inK k n ∧ g = [.int k n]
theorem inK_u32 (n : Int) : inK .u32 n ↔ 0 ≤ n ∧ n ≤ 4294967295 := by simp [inK, IntKind.min, IntKind.max, IntKind.bits, IntKind.signed]
def nAt (r : List V) : Int := match r with | .int _ n :: _ => n | _ => 0
def SNs : List V → Prop := fun g => ∃ n get x, NmOk n get x ∧ g = [.sl n 1 get]
theorem rNs (W : World) : Reads Proofs.Tryz.prog W 55 1 SNs := Reads.mono (reads_slice Proofs.Tryz.underlying55 c57 (by decide) (reads_intK Proofs.Tryz.underlying57)) fun g ⟨n, get, hn, hi, hg⟩ =>
  ⟨n, get, fun i => nAt (get i), ⟨hn, fun i h => by
    obtain ⟨x, hx, e⟩ := hi i h
    have e1 : nAt (get i) = x := by rw [e]; rfl
    rw [e1]
    exact ⟨e, (inK_u32 x).1 hx⟩⟩, hg⟩
theorem rU16 (W : World) : Reads Proofs.Tryz.prog W 31 1 (SK .u16) := reads_intK Proofs.Tryz.underlying31
def SU3 : List V → Prop := fun g => ∃ x y z, (0 ≤ x ∧ x ≤ 65535) ∧ (0 ≤ y ∧ y ≤ 65535) ∧ (0 ≤ z ∧ z ≤ 65535) ∧ g = [.int .u16 x, .int .u16 y, .int .u16 z]
theorem rU3 (W : World) : Reads Proofs.Tryz.prog W 56 3 SU3 :=
  Reads.mono (reads_array [(31, 1, SK .u16), (31, 1, SK .u16), (31, 1, SK .u16)] Proofs.Tryz.underlying56 c56 c31 ⟨rU16 W, rU16 W, rU16 W, trivial⟩ fun tr cs h => ⟨h 0 (by decide), h 1 (by decide), h 2 (by decide), trivial⟩) fun g hg => by
  obtain ⟨_, _, ⟨x, hx, rfl⟩, ⟨_, _, ⟨y, hy, rfl⟩, ⟨_, _, ⟨z, hz, rfl⟩, rfl, rfl⟩, rfl⟩, rfl⟩ := hg
  exact ⟨x, y, z, (inK_u16 x).1 hx, (inK_u16 y).1 hy, (inK_u16 z).1 hz, rfl⟩
theorem arr_arg {P : Program} {W : World} {base : Nat} {t e : TypeId} {n : Nat} {sz : Nat} {S : List V → Prop} {H : Type} {enc : TypeId × Value → H} {v : Value} {d : DataW H} {ps : List MemPlace}
    (ht : P.underlying t = some (.array n e)) (hr : Reads P W t sz S) (hv : Value.okWide P W .any base t v) (h : DataW.Trod enc P W 0 (fun _ => true) true t v d ps) : ∃ g, S g ∧ Pu (.agg g) ∧ R (bareK W (fun _ => False)) (.agg g) v := by
  unfold Value.okWide at hv
  rw [ht] at hv
  obtain ⟨cs, rfl, -, -⟩ := hv
  obtain ⟨fuel, hf⟩ := h
  obtain ⟨g, h1, h2, h3, h4, h5⟩ := hr H enc true fuel _ _ hf
  refine ⟨g, h5, pu_agg.2 h3, .agg _ _ ?_ fun j v hv => ?_⟩
  · have : cs.toList.length = sz := h1
    rw [h2, ← this, Array.length_toList]
  · have := h4 j v hv
    have e : cs.toList.getD j undef = cs.getD j undef := by simp [Array.getD_eq_getD_getElem?, List.getD_eq_getElem?_getD]
    have e2 : (Value.cells (.agg cs)).toList = cs.toList := rfl
    rw [e2, e] at this
    exact this
/-- A list of strings that is laid in a variable. -/
theorem laid_strs {P : Program} {W : World} {H : Type} {enc : TypeId × Value → H} {held : Bool} {fuel : Nat} {t e : TypeId} {n : Nat} {cs : List Value} {zs : List (List UInt8)} {p : List MemPlace}
    (ht : P.underlying t = some (.array n e)) (he : P.underlying e = some .string) (hc : P.cellsOf e = 1) (hct : P.cellsOf t = n)
    (h : DataW.trod enc P W 0 (fun _ => true) held fuel t cs = some (.agg (zs.map fun z => .lit (.string z)), p)) : ∀ j, j < zs.length → cs[j]? = some (.string ⟨(zs.getD j []).toArray⟩) := by
  obtain ⟨xs, m, -, hx, h1, h2, h3⟩ := DataW.trod_array ht h
  intro j hj
  simp only [Prod.mk.injEq, DataW.agg.injEq] at hx
  have hlen : zs.length = xs.length := by have := congrArg List.length hx.1; simpa using this
  have hj2 : j < n := by omega
  have h4 := h3 j hj2
  rw [hc, Nat.mul_one, List.getElem?_eq_getElem (by omega)] at h4
  obtain ⟨z, q1, q2, -⟩ := DataW.trod_string he h4
  have e1 : (zs.map fun z => (DataW.lit (.string z) : DataW H))[j]? = (xs.map (·.1))[j]? := by rw [hx.1]
  rw [List.getElem?_map, List.getElem?_map, List.getElem?_eq_getElem hj, List.getElem?_eq_getElem (by omega : j < xs.length), q2] at e1
  simp only [Option.map_some, Option.some.injEq, DataW.lit.injEq, Lit.string.injEq] at e1
  have e2 : cs[j]? = ((cs.drop j).take 1)[0]? := by rw [List.getElem?_take_of_lt (by decide), List.getElem?_drop, Nat.add_zero]
  rw [e2, q1, List.getD_eq_getElem?_getD, List.getElem?_eq_getElem hj]
  have e3 : z = ⟨zs[j].toArray⟩ := by
    apply ByteArray.ext
    apply Array.toList_inj.1
    simp [e1]
  simp [e3]
end Go.Fly.Tryz
end
section
/- PROVED: for every input, 'flyovertop.TopEaveNumber' returns true, and its arguments read behind the call as they did. Conditions: those of the given row, none beside. The card ties the listed variables to the program's text (a pruned copy). -/
set_option maxRecDepth 100000
namespace Go.Proofs.YtfcdodaakhlppaaGreatDoor
open Go Go.ChangeShapes Go.WideShapes Go.RowKit Go.Fly Go.Fly.Tryz

theorem own : ownKnob Tryz.prog.godebug = none := by kernel_rfl
theorem gFinal : Tryz.prog.globalNamed "flyover/office.final" = some 0 := by kernel_rfl
theorem tFinal : (Tryz.prog.globals[0]?).map (·.type) = some 226 := by kernel_rfl
theorem gBase : Tryz.prog.globalNamed "flyover/sound.base" = some 3 := by kernel_rfl
theorem tBase : (Tryz.prog.globals[3]?).map (·.type) = some 347 := by kernel_rfl
theorem laidOut : laidOutB Tryz.prog = true := by kernel_rfl
theorem read55 : Tryz.prog.readableRec 55 = true := by kernel_rfl
theorem row55 : 55 < Tryz.prog.types.size := of_decide_eq_true (by kernel_rfl)
theorem read56 : Tryz.prog.readableRec 56 = true := by kernel_rfl
theorem row56 : 56 < Tryz.prog.types.size := of_decide_eq_true (by kernel_rfl)

abbrev laid2 : List (String × DataW Unit) := [("flyover/sound.base", Rows.laid_flyover_sound_base), ("flyover/office.final", Rows.laid_flyover_office_final)]
/-- The door's own heap meets the condition. -/
theorem door_met (os : Os) (args : Array Value) : laidMetH Tryz.prog laid2 ((World.doorLaid Tryz.prog 400 os).forCall (fun _ _ => 0) ⟨#[], args, []⟩).memory :=
  laidMetH_of_parts3 (fuel := 8) (laidMet_of_run' 8 (by kernel_rfl) (by kernel_rfl)) (by kernel_rfl) (by kernel_rfl)

def baseL : List Int := [10, 13, 16, 20, 25, 32, 40, 50, 63, 79]
def finalL : List (List UInt8) := [[112, 117, 98, 108, 105, 115, 104], [112, 97, 121]]
/-- What the condition gives: the variables' cells. -/
theorem of_laid {W : World} (h : laidMetH Tryz.prog laid2 W) : (∀ j, j < 10 → W.cell? ⟨3, j, none⟩ = some (.int .i64 (baseL.getD j 0))) ∧ ∀ j, j < 2 → W.cell? ⟨0, j, none⟩ = some (.string ⟨(finalL.getD j []).toArray⟩) := by
  rw [MakeChecks.laidMetH_plain _ _ _ (by kernel_rfl)] at h
  obtain ⟨ps, ⟨g0, t0, cs0, f0, p0, q0, hg0, ht0, hv0, hd0, ⟨g1, t1, cs1, f1, p1, q1, hg1, ht1, hv1, hd1, -⟩, -⟩, -⟩ := h
  obtain rfl := Option.some.inj (gBase.symm.trans hg0)
  obtain rfl := Option.some.inj (tBase.symm.trans ht0)
  obtain rfl := Option.some.inj (gFinal.symm.trans hg1)
  obtain rfl := Option.some.inj (tFinal.symm.trans ht1)
  refine ⟨fun j hj => ?_, fun j hj => ?_⟩
  · have h1 := World.var?_cell hg0 hv0 j
    have h2 := laid_ints (zs := baseL) Tryz.underlying347 Tryz.underlying3 c3 c347 hd0 j hj
    rw [h1, ← h2]
    simp
  · have h1 := World.var?_cell hg1 hv1 j
    have h2 := laid_strs (zs := finalL) Tryz.underlying226 Tryz.underlying9 c9 c226 hd1 j hj
    rw [h1, ← h2]
    simp
theorem globals_ok {W : World} (h : laidMetH Tryz.prog laid2 W) (g : Nat) : R (bareK W (fun _ => False)) (G0 g) (.pointer (some ⟨g, 0, none⟩)) := by
  obtain ⟨hb, hf⟩ := of_laid h
  unfold G0
  split
  · rename_i e
    subst e
    refine .cptr _ 0 0 (fun j => .string ⟨(finalL.getD j []).toArray⟩) (fun q => q) (World.lt_of_cell (hf 0 (by decide))) (by simp only [go_sem, ↓upXAbsY, ↓upXAbsZa, ↓Go.Fly.Off.upXOffC]) (fun j hj => ?_) (fun j v hv => ?_)
    · rw [Nat.zero_add]; exact hf j hj
    · match j, hv with
      | 0, hv => cases hv; exact .str _
      | 1, hv => cases hv; exact .str _
      | j + 2, hv => simp at hv
  split
  · rename_i e
    subst e
    refine .cptr _ 3 0 (fun j => .int .i64 (baseL.getD j 0)) (fun q => q) (World.lt_of_cell (hb 0 (by decide))) (by simp only [go_sem, ↓upXAbsY, ↓upXAbsZa, ↓Go.Fly.Off.upXOffC]) (fun j hj => ?_) (fun j v hv => ?_)
    · rw [Nat.zero_add]; exact hb j hj
    · have e : [V.int .i64 10, .int .i64 13, .int .i64 16, .int .i64 20, .int .i64 25, .int .i64 32, .int .i64 40, .int .i64 50, .int .i64 63, .int .i64 79] = baseL.map (V.int .i64) := rfl
      rw [e, List.getElem?_map] at hv
      cases hb : baseL[j]? with
      | none => rw [hb] at hv; cases hv
      | some z =>
        rw [hb] at hv
        cases hv
        rw [List.getD_eq_getElem?_getD, hb]
        exact .int _ _
  · exact .top _

theorem sl_arg {P : Program} {W : World} {base : Nat} {t e : TypeId} {S : List V → Prop} {H : Type} {enc : TypeId × Value → H} {v : Value} {d : DataW H} {ps : List MemPlace}
    (ht : P.underlying t = some (.slice e)) (hr : Reads P W t 1 S) (hv : Value.okWide P W .any base t v) (h : DataW.Trod enc P W 0 (fun _ => true) true t v d ps) : ∃ a, S [a] ∧ Pu a ∧ R (bareK W (fun _ => False)) a v := by
  obtain ⟨a0, len, cap, rfl⟩ := okWide_slice ht hv
  obtain ⟨fuel, hf⟩ := h
  obtain ⟨g, h1, h2, h3, h4, h5⟩ := hr H enc true fuel _ _ hf
  match g, h2 with
  | [a], _ => exact ⟨a, h5, h3 a (by simp), h4 0 a rfl⟩

theorem lifted (os : Os) (started : os.Started) (H : Type) (enc : TypeId × Value → H) :
    ReturnsInHanded {} Tryz.checked os 4 .any (fun w args => (Rows.topEaveNumberSpec.pre enc Tryz.prog Tryz.f4 [] false w args ∧ laidMetH Tryz.prog laid2 w) ∧ sizedMet enc Tryz.prog Tryz.f4 (OpenSpec.ofChange Rows.topEaveNumberSpec) false w args)
      (Rows.topEaveNumberSpec.post enc Tryz.prog Tryz.f4 false true false false) := by
  refine returnsInHanded_of_change_and (C := Tryz.checked) (X := fun w _ => laidMetH Tryz.prog laid2 w) (fun _ _ _ hh h => h.of_heap hh) own started (by kernel_rfl) Tryz.func4
    (ChangeSpec.witness_shaped (enc := enc) (C := Tryz.checked) (os := os) (X := fun w _ => laidMetH Tryz.prog laid2 w) false (World.doorLaid Tryz.prog 400 os)
      #[.slice none 0 0, .agg #[.int .u16 0, .int .u16 0, .int .u16 0]] 8 rfl (World.shaped_of_RefB (by kernel_rfl) (by kernel_rfl)) (by kernel_rfl) (by kernel_rfl) (by kernel_rfl) (door_met os _)) ?_
  intro W base args ds gs before hval0 hW _ _ hL _
  have hval : ∀ (j : Nat) t v, Tryz.f4.params[j]? = some t → args[j]? = some v → Value.okWide Tryz.prog W .any base t v := hval0
  have hW' := hW
  obtain ⟨p, q, hA0, hV, rfl, hfz, hnd⟩ := hW
  have hA : DataW.TrodAll enc Tryz.prog W 0 (fun _ => true) true Tryz.f4.params.toList args.toList ds p := hA0
  have hplt := hA.lt
  rw [Tryz.params4] at hA hval
  obtain ⟨v0, v1, d0, d1, p0, p1, hargs, rfl, rfl, h0, h1⟩ := trodAll_two hA
  subst hargs
  obtain ⟨rfl, rfl⟩ := trodVars_none hV
  obtain ⟨a0, s0, u0, r0⟩ := sl_arg Tryz.underlying55 (rNs W) (hval 0 55 v0 rfl rfl) h0
  obtain ⟨n, get, x, hnm, ha0⟩ := s0
  obtain ⟨rfl⟩ : a0 = .sl n 1 get := by simpa using ha0
  obtain ⟨g1, s1, u1, r1⟩ := arr_arg Tryz.underlying56 (rU3 W) (hval 1 56 v1 rfl rfl) h1
  obtain ⟨a, b, c, ha, hb, hc, rfl⟩ := s1
  clear hA0 hval0
  have key := tNum_ok (0, 0) [.sl n 1 get, .agg [.int .u16 a, .int .u16 b, .int .u16 c]] W (fun _ => False) #[v0, v1] (fun _ h => h.elim) (globals_ok hL)
    (fun a ha => by
      simp only [List.mem_cons, List.not_mem_nil, or_false] at ha
      rcases ha with rfl | rfl
      · exact u0
      · exact u1)
    ⟨rfl, fun j v hv => by
      match j, hv with
      | 0, hv => cases hv; exact r0
      | 1, hv => cases hv; exact r1
      | j + 2, hv => simp at hv⟩
    ⟨n, get, x, a, b, c, rfl, hnm, ha, hb, hc⟩
  refine key.mono fun e W' ⟨rv, B, he, hst, _, hr⟩ => ?_
  have hr : R _ (.bool true) rv := hr
  obtain rfl := hr.bool_inv
  have hno : ∀ b, ¬ (bareK W fun _ => False).owned b := fun b ⟨l, o, c, h, _⟩ => by cases h
  have hb : Below W.heap.size W W' := ⟨hst.os, hst.tape, hst.output, hst.size, fun k hk => hst.keep k hk (hno k)⟩
  have lt0 : ∀ x ∈ p0, x.block < W.heap.size := fun x hx => hplt x (by simp [hx])
  have lt1 : ∀ x ∈ p1, x.block < W.heap.size := fun x hx => hplt x (by simp [hx])
  refine ⟨_, he, [d0, d1], [], _, [], p0 ++ p1, [], hW', ?_, ?_, ?_, hb.frame _, fun h => by cases h⟩
  · exact trodAll_mk1 (shut_bool Tryz.underlying4 true)
  · exact trodAll_mk2 (hb.trod laidOut read55 row55 h0 lt0) (hb.trod laidOut read56 row56 h1 lt1)
  · exact rfl

theorem said : Rows.TopEaveNumberSaid :=
  OpenClaim.holds_of_wide 4 Tryz.f4 rfl rfl rfl rfl rfl rfl rfl ⟨rfl, rfl, rfl, rfl, rfl⟩ rfl rfl rfl rfl rfl (by kernel_rfl) Tryz.func4 (by kernel_rfl)
    (of_decide_eq_true (by kernel_rfl)) (by unfold Func.isWrapper; rw [if_neg (of_decide_eq_false (by kernel_rfl))]; exact ⟨rfl, rfl⟩)
    (fun os started H enc _ => lifted os started H enc)

/-- The tied card. -/
theorem card_holds : Rows.TopEaveNumberCardSaid :=
  Claim7.holds_tied_plain_at .later [] [.data, .widerDeep] true (true, "cfaf34fee6348ee4ac7bb1406ec08f07360e7737374fc528f5a93e653cb05839") false
    said (fun _ h => by cases h) (by kernel_rfl) (fun _ h => by cases h) topEaveNumber_row_tie rfl ⟨rfl, rfl⟩ (by kernel_rfl) rfl
    (fun f fn hf hfn => by
      obtain rfl : f = 4 := Option.some.inj ((show Tryz.prog.funcNamed "flyover/flyovertop.TopEaveNumber" = some 4 by kernel_rfl).symm.trans hf) |>.symm
      obtain rfl : fn = Tryz.f4 := (Option.some.inj (Tryz.func4.symm.trans hfn)).symm
      exact ⟨by kernel_rfl, fun j t ht => by
        rw [Tryz.params4] at ht
        have hm : t ∈ [55, 56] := by simpa using Array.mem_of_getElem? ht
        have hall : ([55, 56].all fun u => !Tryz.prog.wantsStandIn u) = true := by kernel_rfl
        exact (show Tryz.prog.wantsStandIn t = false by simpa using List.all_eq_true.1 hall t hm)⟩)
    (by kernel_rfl)
#print axioms card_holds
end Go.Proofs.YtfcdodaakhlppaaGreatDoor
end
