/- Part of a proof: an evaluator of the model's code by abstract values, and plain laws for it. No conditions. -/
import Derived.Test.YtfcdodaakhlppaaGreatDoorSYTPF
import Derived.Test.YtfcdodaakhlppaaGreatDoorAX
import Derived.Test.YtfcdodaakhlppaaGreatDoorRows
import Derived.ProofKit
import Derived.LaidMore
import Derived.Stop.Joined
import Derived.ChangeArms
import Derived.Test.YtfcdodaakhlppaaGreatDoorCards
import Derived.Test.YtfcdodaakhlppaaGreatDoorTie
set_option linter.unusedSimpArgs false
set_option linter.unusedVariables false
section
/- The laws on the office's journal, from the data that a call is handed. -/
set_option maxRecDepth 100000
namespace Go.Fly.Tryz
open Go Go.ChangeShapes Go.WideShapes Go.RowKit Off

theorem c3 : Proofs.Tryz.prog.cellsOf 3 = 1 := by kernel_rfl
theorem c4 : Proofs.Tryz.prog.cellsOf 4 = 1 := by kernel_rfl
theorem c5 : Proofs.Tryz.prog.cellsOf 5 = 1 := by kernel_rfl
theorem c9 : Proofs.Tryz.prog.cellsOf 9 = 1 := by kernel_rfl
theorem c31 : Proofs.Tryz.prog.cellsOf 31 = 1 := by kernel_rfl
theorem c33 : Proofs.Tryz.prog.cellsOf 33 = 3 := by kernel_rfl
theorem c226 : Proofs.Tryz.prog.cellsOf 226 = 2 := by kernel_rfl
theorem c347 : Proofs.Tryz.prog.cellsOf 347 = 10 := by kernel_rfl

theorem Reads.mono {P : Program} {W : World} {t : TypeId} {sz : Nat} {S S' : List V → Prop} (h : Reads P W t sz S) (hs : ∀ g, S g → S' g) : Reads P W t sz S' := fun H enc held fuel cs x hx => by
  obtain ⟨g, h1, h2, h3, h4, h5⟩ := h H enc held fuel cs x hx
  exact ⟨g, h1, h2, h3, h4, hs g h5⟩
theorem reads_intK {P : Program} {W : World} {t : TypeId} {k : IntKind} (ht : P.underlying t = some (.int k)) : Reads P W t 1 (fun g => ∃ n, inK k n ∧ g = [.int k n]) := by
  intro H enc held fuel cs x h
  obtain ⟨n, rfl, -, hw⟩ := DataW.trod_int ht h
  refine ⟨[.int k n], rfl, rfl, fun v hv => ?_, fun j v hv => ?_, n, ?_, rfl⟩
  · rw [List.mem_singleton] at hv; subst hv; exact .int _ _
  · rcases j with _ | j
    · cases hv; exact .int _ _
    · simp at hv
  · simp only [Lit.wf, Bool.and_eq_true, decide_eq_true_eq] at hw
    exact hw
theorem reads_bool {P : Program} {W : World} {t : TypeId} (ht : P.underlying t = some .bool) : Reads P W t 1 (fun g => ∃ b, g = [.bool b]) := by
  intro H enc held fuel cs x h
  obtain ⟨b, rfl, -⟩ := DataW.trod_bool ht h
  refine ⟨[.bool b], rfl, rfl, fun v hv => ?_, fun j v hv => ?_, b, rfl⟩
  · rw [List.mem_singleton] at hv; subst hv; exact .bool _
  · rcases j with _ | j
    · cases hv; exact .bool _
    · simp at hv
theorem inK_u16 (n : Int) : inK .u16 n ↔ 0 ≤ n ∧ n ≤ 65535 := by simp [inK, IntKind.min, IntKind.max, IntKind.bits, IntKind.signed]
theorem inK_u8' (n : Int) : inK .u8 n ↔ 0 ≤ n ∧ n ≤ 255 := by simp [inK, IntKind.min, IntKind.max, IntKind.bits, IntKind.signed]
def SK (k : IntKind) : List V → Prop := fun g => ∃ n, inK k n ∧ g = [.int k n]
def SB : List V → Prop := fun g => ∃ b, g = [.bool b]
theorem rPd (W : World) : Reads Proofs.Tryz.prog W 33 3 (Seq [(4, 1, SB), (5, 1, SK .u8), (31, 1, SK .u16)]) :=
  reads_struct [(4, 1, SB), (5, 1, SK .u8), (31, 1, SK .u16)] Proofs.Tryz.underlying33 c33 ⟨reads_bool Proofs.Tryz.underlying4, reads_intK Proofs.Tryz.underlying5, reads_intK Proofs.Tryz.underlying31, trivial⟩ fun tr cs h => by
    have h0 : tr 4 ((cs.drop 0).take (Proofs.Tryz.prog.cellsOf 4)) := h 0 _ rfl
    have h1 : tr 5 ((cs.drop 1).take (Proofs.Tryz.prog.cellsOf 5)) := h 1 _ rfl
    have h2 : tr 31 ((cs.drop 2).take (Proofs.Tryz.prog.cellsOf 31)) := h 2 _ rfl
    rw [c4] at h0
    rw [c5] at h1
    rw [c31] at h2
    exact ⟨h0, h1, h2, trivial⟩
def bOf : List V → Bool | .bool b :: _ => b | _ => false
def nAt (j : Nat) (r : List V) : Int := match r[j]? with | some (.int _ n) => n | _ => 0
def SPds : List V → Prop := fun g => ∃ n get o h a, PdOk n get o h a ∧ g = [.sl n 3 get]
theorem rPds (W : World) : Reads Proofs.Tryz.prog W 22 1 SPds := Reads.mono (reads_slice Proofs.Tryz.underlying22 c33 (by decide) (rPd W)) fun g ⟨n, get, hn, hi, hg⟩ =>
  ⟨n, get, fun i => bOf (get i), fun i => nAt 1 (get i), fun i => nAt 2 (get i), ⟨hn, fun i h => by
    obtain ⟨_, _, ⟨x, rfl⟩, ⟨_, _, ⟨y, hy, rfl⟩, ⟨_, _, ⟨z, hz, rfl⟩, rfl, rfl⟩, rfl⟩, e⟩ := hi i h
    have e1 : bOf (get i) = x := by rw [e]; rfl
    have e2 : nAt 1 (get i) = y := by rw [e]; rfl
    have e3 : nAt 2 (get i) = z := by rw [e]; rfl
    rw [e1, e2, e3]
    exact ⟨e, (inK_u8' y).1 hy, (inK_u16 z).1 hz⟩⟩, hg⟩
/-- A list of strings that is laid in a variable. -/
theorem laid_strs {P : Program} {W : World} {H : Type} {enc : TypeId × Value → H} {held : Bool} {fuel : Nat} {t e : TypeId} {n : Nat} {cs : List Value} {zs : List (List UInt8)} {p : List MemPlace}
    (ht : P.underlying t = some (.array n e)) (he : P.underlying e = some .string) (hc : P.cellsOf e = 1) (hct : P.cellsOf t = n)
    (h : DataW.trod enc P W 0 (fun _ => true) held fuel t cs = some (.agg (zs.map fun z => .lit (.string z)), p)) : ∀ j, j < zs.length → cs[j]? = some (.string ⟨(zs.getD j []).toArray⟩) := by
  obtain ⟨xs, m, -, hx, h1, h2, h3⟩ := DataW.trod_array ht h
  intro j hj
  simp only [Prod.mk.injEq, DataW.agg.injEq] at hx
  have hlen : zs.length = xs.length := by have := congrArg List.length hx.1; simpa using this
  have hj2 : j < n := by omega
  have h4 := h3 j hj2
  rw [hc, Nat.mul_one, List.getElem?_eq_getElem (by omega)] at h4
  obtain ⟨z, q1, q2, -⟩ := DataW.trod_string he h4
  have e1 : (zs.map fun z => (DataW.lit (.string z) : DataW H))[j]? = (xs.map (·.1))[j]? := by rw [hx.1]
  rw [List.getElem?_map, List.getElem?_map, List.getElem?_eq_getElem hj, List.getElem?_eq_getElem (by omega : j < xs.length), q2] at e1
  simp only [Option.map_some, Option.some.injEq, DataW.lit.injEq, Lit.string.injEq] at e1
  have e2 : cs[j]? = ((cs.drop j).take 1)[0]? := by rw [List.getElem?_take_of_lt (by decide), List.getElem?_drop, Nat.add_zero]
  rw [e2, q1, List.getD_eq_getElem?_getD, List.getElem?_eq_getElem hj]
  have e3 : z = ⟨zs[j].toArray⟩ := by
    apply ByteArray.ext
    apply Array.toList_inj.1
    simp [e1]
  simp [e3]
end Go.Fly.Tryz
end
section
/- PROVED: for every input, 'flyovertop.TopEaveFund' returns true, and its argument reads behind the call as it did. Conditions: those of the given row, none beside. The card ties the listed variables to the program's text (a pruned copy). -/
set_option maxRecDepth 100000
namespace Go.Proofs.YtfcdodaakhlppaaGreatDoor
open Go Go.ChangeShapes Go.WideShapes Go.RowKit Go.Fly Go.Fly.Tryz

theorem own : ownKnob Tryz.prog.godebug = none := by kernel_rfl
theorem gFinal : Tryz.prog.globalNamed "flyover/office.final" = some 0 := by kernel_rfl
theorem tFinal : (Tryz.prog.globals[0]?).map (·.type) = some 226 := by kernel_rfl
theorem gBase : Tryz.prog.globalNamed "flyover/sound.base" = some 3 := by kernel_rfl
theorem tBase : (Tryz.prog.globals[3]?).map (·.type) = some 347 := by kernel_rfl
theorem laidOut : laidOutB Tryz.prog = true := by kernel_rfl
theorem read22 : Tryz.prog.readableRec 22 = true := by kernel_rfl
theorem row22 : 22 < Tryz.prog.types.size := of_decide_eq_true (by kernel_rfl)

abbrev laid2 : List (String × DataW Unit) := [("flyover/sound.base", Rows.laid_flyover_sound_base), ("flyover/office.final", Rows.laid_flyover_office_final)]
/-- The door's own heap meets the condition. -/
theorem door_met (os : Os) (args : Array Value) : laidMetH Tryz.prog laid2 ((World.doorLaid Tryz.prog 400 os).forCall (fun _ _ => 0) ⟨#[], args, []⟩).memory :=
  laidMetH_of_parts3 (fuel := 8) (laidMet_of_run' 8 (by kernel_rfl) (by kernel_rfl)) (by kernel_rfl) (by kernel_rfl)

def baseL : List Int := [10, 13, 16, 20, 25, 32, 40, 50, 63, 79]
def finalL : List (List UInt8) := [[112, 117, 98, 108, 105, 115, 104], [112, 97, 121]]
/-- What the condition gives: the variables' cells. -/
theorem of_laid {W : World} (h : laidMetH Tryz.prog laid2 W) : (∀ j, j < 10 → W.cell? ⟨3, j, none⟩ = some (.int .i64 (baseL.getD j 0))) ∧ ∀ j, j < 2 → W.cell? ⟨0, j, none⟩ = some (.string ⟨(finalL.getD j []).toArray⟩) := by
  rw [MakeChecks.laidMetH_plain _ _ _ (by kernel_rfl)] at h
  obtain ⟨ps, ⟨g0, t0, cs0, f0, p0, q0, hg0, ht0, hv0, hd0, ⟨g1, t1, cs1, f1, p1, q1, hg1, ht1, hv1, hd1, -⟩, -⟩, -⟩ := h
  obtain rfl := Option.some.inj (gBase.symm.trans hg0)
  obtain rfl := Option.some.inj (tBase.symm.trans ht0)
  obtain rfl := Option.some.inj (gFinal.symm.trans hg1)
  obtain rfl := Option.some.inj (tFinal.symm.trans ht1)
  refine ⟨fun j hj => ?_, fun j hj => ?_⟩
  · have h1 := World.var?_cell hg0 hv0 j
    have h2 := laid_ints (zs := baseL) Tryz.underlying347 Tryz.underlying3 c3 c347 hd0 j hj
    rw [h1, ← h2]
    simp
  · have h1 := World.var?_cell hg1 hv1 j
    have h2 := laid_strs (zs := finalL) Tryz.underlying226 Tryz.underlying9 c9 c226 hd1 j hj
    rw [h1, ← h2]
    simp
theorem globals_ok {W : World} (h : laidMetH Tryz.prog laid2 W) (g : Nat) : R (bareK W (fun _ => False)) (G0 g) (.pointer (some ⟨g, 0, none⟩)) := by
  obtain ⟨hb, hf⟩ := of_laid h
  unfold G0
  split
  · rename_i e
    subst e
    refine .cptr _ 0 0 (fun j => .string ⟨(finalL.getD j []).toArray⟩) (fun q => q) (World.lt_of_cell (hf 0 (by decide))) (by simp only [go_sem, ↓upXAbsY, ↓upXAbsZa, ↓Go.Fly.Off.upXOffC]) (fun j hj => ?_) (fun j v hv => ?_)
    · rw [Nat.zero_add]; exact hf j hj
    · match j, hv with
      | 0, hv => cases hv; exact .str _
      | 1, hv => cases hv; exact .str _
      | j + 2, hv => simp at hv
  split
  · rename_i e
    subst e
    refine .cptr _ 3 0 (fun j => .int .i64 (baseL.getD j 0)) (fun q => q) (World.lt_of_cell (hb 0 (by decide))) (by simp only [go_sem, ↓upXAbsY, ↓upXAbsZa, ↓Go.Fly.Off.upXOffC]) (fun j hj => ?_) (fun j v hv => ?_)
    · rw [Nat.zero_add]; exact hb j hj
    · have e : [V.int .i64 10, .int .i64 13, .int .i64 16, .int .i64 20, .int .i64 25, .int .i64 32, .int .i64 40, .int .i64 50, .int .i64 63, .int .i64 79] = baseL.map (V.int .i64) := rfl
      rw [e, List.getElem?_map] at hv
      cases hb : baseL[j]? with
      | none => rw [hb] at hv; cases hv
      | some z =>
        rw [hb] at hv
        cases hv
        rw [List.getD_eq_getElem?_getD, hb]
        exact .int _ _
  · exact .top _

theorem sl_arg {P : Program} {W : World} {base : Nat} {t e : TypeId} {S : List V → Prop} {H : Type} {enc : TypeId × Value → H} {v : Value} {d : DataW H} {ps : List MemPlace}
    (ht : P.underlying t = some (.slice e)) (hr : Reads P W t 1 S) (hv : Value.okWide P W .any base t v) (h : DataW.Trod enc P W 0 (fun _ => true) true t v d ps) : ∃ a, S [a] ∧ Pu a ∧ R (bareK W (fun _ => False)) a v := by
  obtain ⟨a0, len, cap, rfl⟩ := okWide_slice ht hv
  obtain ⟨fuel, hf⟩ := h
  obtain ⟨g, h1, h2, h3, h4, h5⟩ := hr H enc true fuel _ _ hf
  match g, h2 with
  | [a], _ => exact ⟨a, h5, h3 a (by simp), h4 0 a rfl⟩

theorem lifted (os : Os) (started : os.Started) (H : Type) (enc : TypeId × Value → H) :
    ReturnsInHanded {} Tryz.checked os 3 .any (fun w args => (Rows.topEaveFundSpec.pre enc Tryz.prog Tryz.f3 [] false w args ∧ laidMetH Tryz.prog laid2 w) ∧ sizedMet enc Tryz.prog Tryz.f3 (OpenSpec.ofChange Rows.topEaveFundSpec) false w args)
      (Rows.topEaveFundSpec.post enc Tryz.prog Tryz.f3 false true false false) := by
  refine returnsInHanded_of_change_and (C := Tryz.checked) (X := fun w _ => laidMetH Tryz.prog laid2 w) (fun _ _ _ hh h => h.of_heap hh) own started (by kernel_rfl) Tryz.func3
    (ChangeSpec.witness_shaped (enc := enc) (C := Tryz.checked) (os := os) (X := fun w _ => laidMetH Tryz.prog laid2 w) false (World.doorLaid Tryz.prog 400 os)
      #[.slice none 0 0] 8 rfl (World.shaped_of_RefB (by kernel_rfl) (by kernel_rfl)) (by kernel_rfl) (by kernel_rfl) (by kernel_rfl) (door_met os _)) ?_
  intro W base args ds gs before hval0 hW _ _ hL _
  have hval : ∀ (j : Nat) t v, Tryz.f3.params[j]? = some t → args[j]? = some v → Value.okWide Tryz.prog W .any base t v := hval0
  have hW' := hW
  obtain ⟨p, q, hA0, hV, rfl, hfz, hnd⟩ := hW
  have hA : DataW.TrodAll enc Tryz.prog W 0 (fun _ => true) true Tryz.f3.params.toList args.toList ds p := hA0
  have hplt := hA.lt
  rw [Tryz.params3] at hA hval
  obtain ⟨v0, d0, hargs, rfl, h0⟩ := trodAll_one hA
  subst hargs
  obtain ⟨rfl, rfl⟩ := trodVars_none hV
  obtain ⟨a0, s0, u0, r0⟩ := sl_arg Tryz.underlying22 (rPds W) (hval 0 22 v0 rfl rfl) h0
  obtain ⟨n, get, o, h, a, hpd, ha0⟩ := s0
  obtain ⟨rfl⟩ : a0 = .sl n 3 get := by simpa using ha0
  clear hA0 hval0
  have key := tFund_ok (0, 0) [.sl n 3 get] W (fun _ => False) #[v0] (fun _ h => h.elim) (globals_ok hL)
    (fun a ha => by
      simp only [List.mem_cons, List.not_mem_nil, or_false] at ha
      subst ha
      exact u0)
    ⟨rfl, fun j v hv => by
      match j, hv with
      | 0, hv => cases hv; exact r0
      | j + 1, hv => simp at hv⟩
    ⟨n, get, o, h, a, rfl, hpd⟩
  refine key.mono fun e W' ⟨rv, B, he, hst, _, hr⟩ => ?_
  have hr : R _ (.bool true) rv := hr
  obtain rfl := hr.bool_inv
  have hno : ∀ b, ¬ (bareK W fun _ => False).owned b := fun b ⟨l, o, c, h, _⟩ => by cases h
  have hb : Below W.heap.size W W' := ⟨hst.os, hst.tape, hst.output, hst.size, fun k hk => hst.keep k hk (hno k)⟩
  refine ⟨_, he, [d0], [], _, [], p, [], hW', ?_, ?_, ?_, hb.frame _, fun h => by cases h⟩
  · exact trodAll_mk1 (shut_bool Tryz.underlying4 true)
  · exact trodAll_mk1 (hb.trod laidOut read22 row22 h0 hplt)
  · exact rfl

theorem said : Rows.TopEaveFundSaid :=
  OpenClaim.holds_of_wide 3 Tryz.f3 rfl rfl rfl rfl rfl rfl rfl ⟨rfl, rfl, rfl, rfl, rfl⟩ rfl rfl rfl rfl rfl (by kernel_rfl) Tryz.func3 (by kernel_rfl)
    (of_decide_eq_true (by kernel_rfl)) (by unfold Func.isWrapper; rw [if_neg (of_decide_eq_false (by kernel_rfl))]; exact ⟨rfl, rfl⟩)
    (fun os started H enc _ => lifted os started H enc)

/-- The tied card. -/
theorem card_holds : Rows.TopEaveFundCardSaid :=
  Claim7.holds_tied_plain_at .later [] [.data, .widerDeep] true (true, "cfaf34fee6348ee4ac7bb1406ec08f07360e7737374fc528f5a93e653cb05839") false
    said (fun _ h => by cases h) (by kernel_rfl) (fun _ h => by cases h) topEaveFund_row_tie rfl ⟨rfl, rfl⟩ (by kernel_rfl) rfl
    (fun f fn hf hfn => by
      obtain rfl : f = 3 := Option.some.inj ((show Tryz.prog.funcNamed "flyover/flyovertop.TopEaveFund" = some 3 by kernel_rfl).symm.trans hf) |>.symm
      obtain rfl : fn = Tryz.f3 := (Option.some.inj (Tryz.func3.symm.trans hfn)).symm
      exact ⟨by kernel_rfl, fun j t ht => by
        rw [Tryz.params3] at ht
        have hm : t ∈ [22] := by simpa using Array.mem_of_getElem? ht
        have hall : ([22].all fun u => !Tryz.prog.wantsStandIn u) = true := by kernel_rfl
        exact (show Tryz.prog.wantsStandIn t = false by simpa using List.all_eq_true.1 hall t hm)⟩)
    (by kernel_rfl)
#print axioms card_holds
end Go.Proofs.YtfcdodaakhlppaaGreatDoor
end
