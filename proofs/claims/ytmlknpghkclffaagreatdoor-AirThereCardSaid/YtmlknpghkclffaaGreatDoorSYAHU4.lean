/- Part of a proof: an evaluator of the model's code by abstract values, and plain laws for it. No conditions. -/
import Derived.Test.YtmlknpghkclffaaGreatDoorSYAHA
import Derived.Test.YtmlknpghkclffaaGreatDoorAX
import Derived.Test.YtmlknpghkclffaaGreatDoorRows
import Derived.ProofKit
import Derived.LaidMore
import Derived.Stop.Joined
import Derived.Test.YtmlknpghkclffaaGreatDoorBB
set_option linter.unusedSimpArgs false
set_option linter.unusedVariables false
section
/- From the data that a call of the laws on the air is handed. -/
set_option maxRecDepth 100000
namespace Go.Fly.Tryz
open Go Go.ChangeShapes Go.WideShapes Go.RowKit

theorem c3 : Proofs.Tryz.prog.cellsOf 3 = 1 := by kernel_rfl
theorem c9 : Proofs.Tryz.prog.cellsOf 9 = 1 := by kernel_rfl
theorem c45 : Proofs.Tryz.prog.cellsOf 45 = 3 := by kernel_rfl
theorem c47 : Proofs.Tryz.prog.cellsOf 47 = 6 := by kernel_rfl
theorem c49 : Proofs.Tryz.prog.cellsOf 49 = 2 := by kernel_rfl
theorem c54 : Proofs.Tryz.prog.cellsOf 54 = 1 := by kernel_rfl
theorem c70 : Proofs.Tryz.prog.cellsOf 70 = 2 := by kernel_rfl
theorem c72 : Proofs.Tryz.prog.cellsOf 72 = 5 := by kernel_rfl
theorem c272 : Proofs.Tryz.prog.cellsOf 272 = 20 := by kernel_rfl

theorem Reads.mono {P : Program} {W : World} {t : TypeId} {sz : Nat} {S S' : List V → Prop} (h : Reads P W t sz S) (hs : ∀ g, S g → S' g) : Reads P W t sz S' := fun H enc held fuel cs x hx => by
  obtain ⟨g, h1, h2, h3, h4, h5⟩ := h H enc held fuel cs x hx
  exact ⟨g, h1, h2, h3, h4, hs g h5⟩

def SI : List V → Prop := fun g => ∃ n, inK .i64 n ∧ g = [.int .i64 n]
theorem rI (W : World) : Reads Proofs.Tryz.prog W 3 1 SI := reads_int Proofs.Tryz.underlying3
theorem rPt (W : World) : Reads Proofs.Tryz.prog W 70 2 (Seq [(3, 1, SI), (3, 1, SI)]) :=
  reads_struct [(3, 1, SI), (3, 1, SI)] Proofs.Tryz.underlying70 c70 ⟨rI W, rI W, trivial⟩ fun tr cs h => by
    have h0 : tr 3 ((cs.drop 0).take (Proofs.Tryz.prog.cellsOf 3)) := h 0 _ rfl
    have h1 : tr 3 ((cs.drop 1).take (Proofs.Tryz.prog.cellsOf 3)) := h 1 _ rfl
    rw [c3] at h0
    rw [c3] at h1
    exact ⟨h0, h1, trivial⟩
theorem rIv (W : World) : Reads Proofs.Tryz.prog W 49 2 (Seq [(3, 1, SI), (3, 1, SI)]) :=
  reads_struct [(3, 1, SI), (3, 1, SI)] Proofs.Tryz.underlying49 c49 ⟨rI W, rI W, trivial⟩ fun tr cs h => by
    have h0 : tr 3 ((cs.drop 0).take (Proofs.Tryz.prog.cellsOf 3)) := h 0 _ rfl
    have h1 : tr 3 ((cs.drop 1).take (Proofs.Tryz.prog.cellsOf 3)) := h 1 _ rfl
    rw [c3] at h0
    rw [c3] at h1
    exact ⟨h0, h1, trivial⟩
theorem rVec (W : World) : Reads Proofs.Tryz.prog W 45 3 (Seq [(3, 1, SI), (3, 1, SI), (3, 1, SI)]) :=
  reads_struct [(3, 1, SI), (3, 1, SI), (3, 1, SI)] Proofs.Tryz.underlying45 c45 ⟨rI W, rI W, rI W, trivial⟩ fun tr cs h => by
    have h0 : tr 3 ((cs.drop 0).take (Proofs.Tryz.prog.cellsOf 3)) := h 0 _ rfl
    have h1 : tr 3 ((cs.drop 1).take (Proofs.Tryz.prog.cellsOf 3)) := h 1 _ rfl
    have h2 : tr 3 ((cs.drop 2).take (Proofs.Tryz.prog.cellsOf 3)) := h 2 _ rfl
    rw [c3] at h0
    rw [c3] at h1
    rw [c3] at h2
    exact ⟨h0, h1, h2, trivial⟩
def SPath : List V → Prop := fun g => ∃ a b c d e f, g = [.int .i64 a, .int .i64 b, .int .i64 c, .int .i64 d, .int .i64 e, .int .i64 f]
theorem rPath (W : World) : Reads Proofs.Tryz.prog W 47 6 SPath :=
  Reads.mono (reads_struct [(45, 3, Seq [(3, 1, SI), (3, 1, SI), (3, 1, SI)]), (45, 3, Seq [(3, 1, SI), (3, 1, SI), (3, 1, SI)])] Proofs.Tryz.underlying47 c47 ⟨rVec W, rVec W, trivial⟩ fun tr cs h => by
    have h0 : tr 45 ((cs.drop 0).take (Proofs.Tryz.prog.cellsOf 45)) := h 0 _ rfl
    have h1 : tr 45 ((cs.drop 3).take (Proofs.Tryz.prog.cellsOf 45)) := h 1 _ rfl
    rw [c45] at h0
    rw [c45] at h1
    exact ⟨h0, h1, trivial⟩) fun g hg => by
  obtain ⟨_, _, ⟨_, _, ⟨a, _, rfl⟩, ⟨_, _, ⟨b, _, rfl⟩, ⟨_, _, ⟨c, _, rfl⟩, rfl, rfl⟩, rfl⟩, rfl⟩, ⟨_, _, ⟨_, _, ⟨d, _, rfl⟩, ⟨_, _, ⟨e, _, rfl⟩, ⟨_, _, ⟨f, _, rfl⟩, rfl, rfl⟩, rfl⟩, rfl⟩, rfl, rfl⟩, rfl⟩ := hg
  exact ⟨a, b, c, d, e, f, rfl⟩
def SIvs : List V → Prop := fun g => ∃ n get, IsIv n get ∧ g = [.sl n 2 get]
theorem rIvs (W : World) : Reads Proofs.Tryz.prog W 54 1 SIvs := Reads.mono (reads_slice Proofs.Tryz.underlying54 c49 (by decide) (rIv W)) fun g ⟨n, get, hn, hi, hg⟩ =>
  ⟨n, get, ⟨hn, fun i h => by
    obtain ⟨a, b, ⟨x, _, rfl⟩, ⟨c, d, ⟨y, _, rfl⟩, rfl, rfl⟩, e⟩ := hi i h
    rw [e]; simp [cell, e]⟩, hg⟩
theorem rLay (W : World) : Reads Proofs.Tryz.prog W 72 5 (Seq [(3, 1, SI), (3, 1, SI), (70, 2, Seq [(3, 1, SI), (3, 1, SI)]), (54, 1, SIvs)]) :=
  reads_struct [(3, 1, SI), (3, 1, SI), (70, 2, Seq [(3, 1, SI), (3, 1, SI)]), (54, 1, SIvs)] Proofs.Tryz.underlying72 c72 ⟨rI W, rI W, rPt W, rIvs W, trivial⟩ fun tr cs h => by
    have h0 : tr 3 ((cs.drop 0).take (Proofs.Tryz.prog.cellsOf 3)) := h 0 _ rfl
    have h1 : tr 3 ((cs.drop 1).take (Proofs.Tryz.prog.cellsOf 3)) := h 1 _ rfl
    have h2 : tr 70 ((cs.drop 2).take (Proofs.Tryz.prog.cellsOf 70)) := h 2 _ rfl
    have h3 : tr 54 ((cs.drop 4).take (Proofs.Tryz.prog.cellsOf 54)) := h 3 _ rfl
    rw [c3] at h0
    rw [c3] at h1
    rw [c70] at h2
    rw [c54] at h3
    exact ⟨h0, h1, h2, h3, trivial⟩
def SAir : List V → Prop := fun g => ∃ n get, IsAir n get ∧ g = [.sl n 5 get]
theorem rAirs (W : World) : Reads Proofs.Tryz.prog W 22 1 SAir := Reads.mono (reads_slice Proofs.Tryz.underlying22 c72 (by decide) (rLay W)) fun g ⟨n, get, hn, hi, hg⟩ =>
  ⟨n, get, ⟨hn, fun i h => by
    obtain ⟨_, _, ⟨x, _, rfl⟩, ⟨_, _, ⟨y, _, rfl⟩, ⟨_, _, ⟨_, _, ⟨u, _, rfl⟩, ⟨_, _, ⟨v, _, rfl⟩, rfl, rfl⟩, rfl⟩, ⟨_, _, ⟨m, gg, hm, rfl⟩, rfl, rfl⟩, rfl⟩, rfl⟩, e⟩ := hi i h
    have e1 : inN get i 4 = m := by simp [inN, e]
    have e2 : inG get i 4 = gg := by simp [inG, e]
    rw [e1, e2]
    refine ⟨?_, hm⟩
    rw [e]; simp [cell, e]⟩, hg⟩

/-! What the listed variables hold. -/
theorem gHeads : Proofs.Tryz.prog.globalNamed "flyover/air.heads" = some 0 := by kernel_rfl
theorem tHeads : (Proofs.Tryz.prog.globals[0]?).map (·.type) = some 210 := by kernel_rfl
theorem gPow : Proofs.Tryz.prog.globalNamed "internal/strconv.uint64pow10" = some 3 := by kernel_rfl
theorem tPow : (Proofs.Tryz.prog.globals[3]?).map (·.type) = some 272 := by kernel_rfl
theorem laidOut : laidOutB Proofs.Tryz.prog = true := by kernel_rfl

theorem heads_cells {W : World} {cs : Array Value} {fuel : Nat} {p : List MemPlace} (h : DataW.trod (fun _ => ()) Proofs.Tryz.prog W 0 (fun _ => true) false fuel 210 cs.toList = some (Proofs.YtmlknpghkclffaaGreatDoor.Rows.laid_flyover_air_heads, p)) : cs[0]? = some (.string ⟨#[108, 97, 121, 101, 114]⟩) := by
  obtain ⟨xs, m, -, hx, h1, h2, h3⟩ := DataW.trod_array Proofs.Tryz.underlying210 h
  have h4 := h3 0 (by decide)
  rw [c9, Nat.zero_mul, List.drop_zero, List.getElem?_eq_getElem (by omega)] at h4
  obtain ⟨s, q1, q2, -⟩ := DataW.trod_string Proofs.Tryz.underlying9 h4
  simp only [Prod.mk.injEq] at hx
  have e1 : (xs.map (·.1))[0]? = [(DataW.lit (.string [108, 97, 121, 101, 114]) : DataW Unit)][0]? := by
    have e0 := hx.1
    unfold Proofs.YtmlknpghkclffaaGreatDoor.Rows.laid_flyover_air_heads at e0
    simp only [DataW.agg.injEq] at e0
    rw [← e0]
  rw [List.getElem?_map, List.getElem?_eq_getElem (by omega : 0 < xs.length), q2] at e1
  simp only [Option.map_some, List.getElem?_cons_zero, Option.some.injEq, DataW.lit.injEq, Lit.string.injEq] at e1
  have e2 : cs.toList[0]? = (cs.toList.take 1)[0]? := by rw [List.getElem?_take_of_lt (by decide)]
  rw [← Array.getElem?_toList, e2, q1]
  have e3 : s = ⟨#[108, 97, 121, 101, 114]⟩ := by
    apply ByteArray.ext
    apply Array.toList_inj.1
    exact e1
  rw [e3]; rfl
theorem pow_cells {W : World} {cs : Array Value} {fuel : Nat} {p : List MemPlace} (h : DataW.trod (fun _ => ()) Proofs.Tryz.prog W 0 (fun _ => true) false fuel 272 cs.toList = some (Proofs.YtmlknpghkclffaaGreatDoor.Rows.laid_internal_strconv_uint64pow10, p)) : cs = (Lib.pow10Tab.map (Value.int .u64)).toArray := by
  obtain ⟨xs, m, -, hx, h1, h2, h3⟩ := DataW.trod_array Proofs.Tryz.underlying272 h
  rw [c272] at h1
  have e0 : (DataW.agg (xs.map (·.1)) : DataW Unit) = .agg (Lib.pow10Tab.map fun z => .lit (.int .u64 z)) := by
    simp only [Prod.mk.injEq] at hx
    rw [← hx.1]
    rfl
  simp only [DataW.agg.injEq] at e0
  apply Array.toList_inj.1
  apply List.ext_getElem?
  intro j
  rcases Nat.lt_or_ge j 20 with hj | hj
  · have h4 := h3 j hj
    rw [show Proofs.Tryz.prog.cellsOf 263 = 1 by kernel_rfl, Nat.mul_one, List.getElem?_eq_getElem (by omega)] at h4
    obtain ⟨z, q1, q2, -⟩ := DataW.trod_int (k := .u64) Proofs.Tryz.underlying263 h4
    have e1 : (xs.map (·.1))[j]? = (Lib.pow10Tab.map fun z => (DataW.lit (.int .u64 z) : DataW Unit))[j]? := by rw [e0]
    have hl : j < Lib.pow10Tab.length := by rw [Lib.pow10Tab_length]; exact hj
    rw [List.getElem?_map, List.getElem?_map, List.getElem?_eq_getElem (by omega : j < xs.length), List.getElem?_eq_getElem hl, q2] at e1
    simp only [Option.map_some, Option.some.injEq, DataW.lit.injEq, Lit.int.injEq, true_and] at e1
    have e2 : cs.toList[j]? = ((cs.toList.drop j).take 1)[0]? := by rw [List.getElem?_take_of_lt (by decide), List.getElem?_drop, Nat.add_zero]
    rw [e2, q1, List.getElem?_map, List.getElem?_eq_getElem hl, e1]
    rfl
  · rw [List.getElem?_eq_none (by omega), List.getElem?_eq_none (by simp [Lib.pow10Tab_length]; omega)]
theorem globals_of {W : World} {c0 c3 : Array Value} (h0 : W.var? Proofs.Tryz.prog "flyover/air.heads" = some c0) (e0 : c0[0]? = some (.string ⟨#[108, 97, 121, 101, 114]⟩)) (h3 : W.var? Proofs.Tryz.prog "internal/strconv.uint64pow10" = some c3) (e3 : c3 = (Lib.pow10Tab.map (Value.int .u64)).toArray)
    (g : Nat) : R (bareK W (fun _ => False)) (G0 g) (.pointer (some ⟨g, 0, none⟩)) := by
  unfold G0
  split
  · rename_i e
    subst e
    have hc : W.cell? ⟨0, 0, none⟩ = some (.string ⟨#[108, 97, 121, 101, 114]⟩) := by rw [World.var?_cell gHeads h0 0]; exact e0
    refine .cptr _ 0 0 (fun _ => .string ⟨#[108, 97, 121, 101, 114]⟩) (fun q => q) (World.lt_of_cell hc) (by simp only [go_sem, ↓op_move, ↓op_assign, ↓op_pick, ↓op_alloc, ↓op_box, ↓op_build, ↓op_buildSlice, ↓op_load, ↓op_store, ↓op_nilCheck, ↓op_bin, ↓op_un, ↓op_convert, ↓op_makeFunc, ↓op_makeSlice, ↓op_slice, ↓op_fieldAddr, ↓op_field, ↓op_indexAddr, ↓op_index, ↓op_extract, ↓op_lookup, ↓op_mapUpdate, ↓op_makeMap, ↓op_range, ↓op_next, ↓op_call, ↓op_builtin, ↓g_tt, ↓g_ff, ↓g_tf, ↓g_ft, ↓g_tnt, ↓g_tnf, ↓g_fnt, ↓g_fnf, ↓mkT_getD]) (fun j hj => ?_) (fun j v hv => ?_)
    · have hj : j < 1 := hj
      obtain rfl : j = 0 := by omega
      exact hc
    · match j, hv with
      | 0, hv => cases hv; exact .str [108, 97, 121, 101, 114]
      | j + 1, hv => simp at hv
  · split
    · rename_i e
      subst e
      unfold World.var? at h3
      rw [gPow] at h3
      have h3 : (match W.heap[3]? with
        | some (Obj.cells cs _ _) => some cs
        | _ => none) = some c3 := h3
      cases hh : W.heap[3]? with
      | none => rw [hh] at h3; cases h3
      | some o =>
        rw [hh] at h3
        cases o with
        | cells cs ty fz =>
          have h3 : some cs = some c3 := h3
          cases h3
          refine .tabp _ 3 ty fz (fun q => q) (Array.getElem?_eq_some_iff.1 hh).1 ?_
          show W.heap[3]? = _
          rw [hh, e3]
          rfl
        | _ => cases h3
    · exact .top _

/-- An argument that is a struct, one that is a slice. -/
theorem agg_arg {P : Program} {W : World} {base : Nat} {t : TypeId} {fs : Array Field} {sz : Nat} {S : List V → Prop} {H : Type} {enc : TypeId × Value → H} {v : Value} {d : DataW H} {ps : List MemPlace}
    (ht : P.underlying t = some (.struct fs)) (hr : Reads P W t sz S) (hv : Value.okWide P W .any base t v) (h : DataW.Trod enc P W 0 (fun _ => true) true t v d ps) : ∃ g, S g ∧ Pu (.agg g) ∧ R (bareK W (fun _ => False)) (.agg g) v := by
  unfold Value.okWide at hv
  rw [ht] at hv
  obtain ⟨cs, rfl, -, -⟩ := hv
  obtain ⟨fuel, hf⟩ := h
  obtain ⟨g, h1, h2, h3, h4, h5⟩ := hr H enc true fuel _ _ hf
  refine ⟨g, h5, pu_agg.2 h3, .agg _ _ ?_ fun j v hv => ?_⟩
  · have : cs.toList.length = sz := h1
    rw [h2, ← this, Array.length_toList]
  · have := h4 j v hv
    have e : cs.toList.getD j undef = cs.getD j undef := by simp [Array.getD_eq_getD_getElem?, List.getD_eq_getElem?_getD]
    have e2 : (Value.cells (.agg cs)).toList = cs.toList := rfl
    rw [e2, e] at this
    exact this
theorem sl_arg {P : Program} {W : World} {base : Nat} {t e : TypeId} {S : List V → Prop} {H : Type} {enc : TypeId × Value → H} {v : Value} {d : DataW H} {ps : List MemPlace}
    (ht : P.underlying t = some (.slice e)) (hr : Reads P W t 1 S) (hv : Value.okWide P W .any base t v) (h : DataW.Trod enc P W 0 (fun _ => true) true t v d ps) : ∃ a, S [a] ∧ Pu a ∧ R (bareK W (fun _ => False)) a v := by
  obtain ⟨a0, len, cap, rfl⟩ := okWide_slice ht hv
  obtain ⟨fuel, hf⟩ := h
  obtain ⟨g, h1, h2, h3, h4, h5⟩ := hr H enc true fuel _ _ hf
  match g, h2 with
  | [a], _ => exact ⟨a, h5, h3 a (by simp), h4 0 a rfl⟩
end Go.Fly.Tryz
end
section
/- More that a call of the laws on the air is handed: arrays of numbers. -/
namespace Go.Fly.Tryz
open Go Go.ChangeShapes Go.WideShapes Go.RowKit
theorem reads_intK {P : Program} {W : World} {t : TypeId} {k : IntKind} (ht : P.underlying t = some (.int k)) : Reads P W t 1 (fun g => ∃ n, inK k n ∧ g = [.int k n]) := by
  intro H enc held fuel cs x h
  obtain ⟨n, rfl, -, hw⟩ := DataW.trod_int ht h
  refine ⟨[.int k n], rfl, rfl, fun v hv => ?_, fun j v hv => ?_, n, ?_, rfl⟩
  · rw [List.mem_singleton] at hv; subst hv; exact .int _ _
  · rcases j with _ | j
    · cases hv; exact .int _ _
    · simp at hv
  · simp only [Lit.wf, Bool.and_eq_true, decide_eq_true_eq] at hw
    exact hw
theorem arr_arg {P : Program} {W : World} {base : Nat} {t e : TypeId} {n : Nat} {sz : Nat} {S : List V → Prop} {H : Type} {enc : TypeId × Value → H} {v : Value} {d : DataW H} {ps : List MemPlace}
    (ht : P.underlying t = some (.array n e)) (hr : Reads P W t sz S) (hv : Value.okWide P W .any base t v) (h : DataW.Trod enc P W 0 (fun _ => true) true t v d ps) : ∃ g, S g ∧ Pu (.agg g) ∧ R (bareK W (fun _ => False)) (.agg g) v := by
  unfold Value.okWide at hv
  rw [ht] at hv
  obtain ⟨cs, rfl, -, -⟩ := hv
  obtain ⟨fuel, hf⟩ := h
  obtain ⟨g, h1, h2, h3, h4, h5⟩ := hr H enc true fuel _ _ hf
  refine ⟨g, h5, pu_agg.2 h3, .agg _ _ ?_ fun j v hv => ?_⟩
  · have : cs.toList.length = sz := h1
    rw [h2, ← this, Array.length_toList]
  · have := h4 j v hv
    have e : cs.toList.getD j undef = cs.getD j undef := by simp [Array.getD_eq_getD_getElem?, List.getD_eq_getElem?_getD]
    have e2 : (Value.cells (.agg cs)).toList = cs.toList := rfl
    rw [e2, e] at this
    exact this
end Go.Fly.Tryz
end
section
/- More that a call of the laws on the air is handed: numbers of other kinds. -/
namespace Go.Fly.Tryz
open Go Go.ChangeShapes Go.WideShapes Go.RowKit
theorem c105 : Proofs.Tryz.prog.cellsOf 105 = 1 := by kernel_rfl
theorem c106 : Proofs.Tryz.prog.cellsOf 106 = 2 := by kernel_rfl
def SK (k : IntKind) : List V → Prop := fun g => ∃ n, inK k n ∧ g = [.int k n]
theorem rU16 (W : World) : Reads Proofs.Tryz.prog W 105 1 (SK .u16) := reads_intK Proofs.Tryz.underlying105
def SU2 : List V → Prop := fun g => ∃ x y, (0 ≤ x ∧ x ≤ 65535) ∧ (0 ≤ y ∧ y ≤ 65535) ∧ g = [.int .u16 x, .int .u16 y]
theorem rU2 (W : World) : Reads Proofs.Tryz.prog W 106 2 SU2 :=
  Reads.mono (reads_array [(105, 1, SK .u16), (105, 1, SK .u16)] Proofs.Tryz.underlying106 c106 c105 ⟨rU16 W, rU16 W, trivial⟩ fun tr cs h => ⟨h 0 (by decide), h 1 (by decide), trivial⟩) fun g hg => by
  obtain ⟨_, _, ⟨x, hx, rfl⟩, ⟨_, _, ⟨y, hy, rfl⟩, rfl, rfl⟩, rfl⟩ := hg
  exact ⟨x, y, (inK_u16 x).1 hx, (inK_u16 y).1 hy, rfl⟩
end Go.Fly.Tryz
end
