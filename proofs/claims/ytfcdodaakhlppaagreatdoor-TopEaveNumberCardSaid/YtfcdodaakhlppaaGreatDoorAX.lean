/- Part of a proof: an evaluator of the model's code by abstract values, and plain laws for it. No conditions. -/
import Derived.Test.YtfcdodaakhlppaaGreatDoorAV
import Derived.Deep.Slices
import Derived.OpenShut
import Derived.FnData
set_option linter.unusedSimpArgs false
set_option linter.unusedVariables false
/- From what a call is handed, as data, to abstract values. -/
namespace Go.Fly
open Go

/-- What is read as data is an abstract value without names, of a shape. -/
def Reads (P : Program) (W : World) (t : TypeId) (sz : Nat) (S : List V → Prop) : Prop :=
  ∀ (H : Type) (enc : TypeId × Value → H) (held : Bool) (fuel : Nat) (cs : List Value) (x : DataW H × List MemPlace), DataW.trod enc P W 0 (fun _ => true) held fuel t cs = some x →
    ∃ g : List V, cs.length = sz ∧ g.length = sz ∧ (∀ v ∈ g, Pu v) ∧ (∀ (j : Nat) (v : V), g[j]? = some v → R (bareK W (fun _ => False)) v (cs.getD j undef)) ∧ S g

theorem reads_slice {P : Program} {W : World} {t e : TypeId} {sz : Nat} {S : List V → Prop} (ht : P.underlying t = some (.slice e)) (hc : P.cellsOf e = sz) (hsz : 0 < sz) (he : Reads P W e sz S) :
    Reads P W t 1 (fun g => ∃ n get, n ≤ 9223372036854775807 ∧ (∀ i, i < n → S (get i)) ∧ g = [.sl n sz get]) := by
  intro H enc held fuel cs x h
  rcases Deep.open_slice ht h with ⟨rfl, -⟩ | ⟨a, len, cap, m, n, D, Pl, rfl, -, hl, hm, hmm, -, hx⟩
  · refine ⟨[.sl 0 sz (fun _ => [])], rfl, rfl, fun v hv => ?_, fun j v hv => ?_, 0, _, by decide, fun i hi => absurd hi (Nat.not_lt_zero _), rfl⟩
    · rw [List.mem_singleton] at hv; subst hv; exact .sl _ _ _ fun i j v hi => absurd hi (Nat.not_lt_zero _)
    · rcases j with _ | j
      · cases hv; exact .sl0 _ _ _ _
      · simp at hv
  · have hmc : m = cap := hmm.trans (if_pos rfl)
    subst hmc
    rw [hc] at hx
    have hel : ∀ i, i < len → ∃ p : List Value × List V, W.cells? 0 (a.add (i * sz)) sz = some p.1 ∧ p.1.length = sz ∧ p.2.length = sz ∧ (∀ v ∈ p.2, Pu v) ∧ (∀ (j : Nat) (v : V), p.2[j]? = some v → R (bareK W (fun _ => False)) v (p.1.getD j undef)) ∧ S p.2 := fun i hi => by
      obtain ⟨cs', h1, h2⟩ := hx i (by omega)
      obtain ⟨g, g1, g2, g3, g4, g5⟩ := he H enc held n cs' _ h2
      exact ⟨(cs', g), h1, g1, g2, g3, g4, g5⟩
    obtain ⟨F, hF⟩ := Deep.choose_lt (α := List Value × List V) (p := fun i p => W.cells? 0 (a.add (i * sz)) sz = some p.1 ∧ p.1.length = sz ∧ p.2.length = sz ∧ (∀ v ∈ p.2, Pu v) ∧ (∀ (j : Nat) (v : V), p.2[j]? = some v → R (bareK W (fun _ => False)) v (p.1.getD j undef)) ∧ S p.2) hel
    have hpu : Pu (.sl len sz fun i => (F i).2) := .sl _ _ _ fun i j v hi hv => (hF i hi).2.2.2.1 v (mem_of_get hv)
    refine ⟨[.sl len sz fun i => (F i).2], rfl, rfl, fun v hv => ?_, fun j v hv => ?_, len, _, ?_, fun i hi => (hF i hi).2.2.2.2.2, rfl⟩
    · rw [List.mem_singleton] at hv; subst hv; exact hpu
    · rcases j with _ | j
      · cases hv
        show R _ _ (.slice (some a) len m)
        rcases Nat.eq_zero_or_pos len with h0 | hpos
        · subst h0; exact .sl0 _ _ _ _
        · have hcell : ∀ i j, i < len → j < sz → W.cell? ((a.add (i * sz)).add j) = some ((F i).1.getD j undef) := fun i j hi hj => by
            obtain ⟨q1, q2, -⟩ := hF i hi
            obtain ⟨-, -, q3⟩ := World.cells?_some q1
            rw [q3 j hj, List.getD_eq_getElem?_getD, List.getElem?_eq_getElem (by omega)]
            rfl
          have h00 := hcell 0 0 hpos hsz
          have hspot : a.spot = none := by
            rw [Deep.add_add, Nat.zero_mul] at h00
            unfold World.cell? Addr.add at h00
            simp only [Nat.add_zero, ite_true] at h00
            split at h00
            · split at h00
              · cases h00
              · rename_i q; simpa using q
            · cases h00
          obtain ⟨b, off, spot⟩ := a
          simp only at hspot
          subst hspot
          have hadd : ∀ k, (Addr.add ⟨b, off, none⟩ k) = ⟨b, off + k, none⟩ := fun k => by
            unfold Addr.add
            split
            · rename_i q; subst q; rfl
            · rfl
          have hc2 : ∀ i j, i < len → j < sz → W.cell? ⟨b, off + i * sz + j, none⟩ = some ((F i).1.getD j undef) := fun i j hi hj => by
            have := hcell i j hi hj
            rw [Deep.add_add, hadd, ← Nat.add_assoc] at this
            exact this
          exact .sl len sz _ b off m (fun i j => (F i).1.getD j undef) (fun q => q) (World.lt_of_cell (hc2 0 0 hpos hsz)) hl hpu (fun i hi => (hF i hi).2.2.1) hc2 (fun i j v hi hv => (hF i hi).2.2.2.2.1 j v hv)
      · simp at hv
    · have : (maxLen : Nat) = 9223372036854775807 := by decide
      omega

/-- Rows one behind the other. -/
def Seq : List (TypeId × Nat × (List V → Prop)) → List V → Prop
  | [], g => g = []
  | x :: r, g => ∃ a b, x.2.2 a ∧ Seq r b ∧ g = a ++ b
def seqSz : List (TypeId × Nat × (List V → Prop)) → Nat
  | [] => 0
  | x :: r => x.2.1 + seqSz r
def SeqAt (tr : TypeId → List Value → Prop) (cs : List Value) : Nat → List (TypeId × Nat × (List V → Prop)) → Prop
  | _, [] => True
  | o, x :: r => tr x.1 ((cs.drop o).take x.2.1) ∧ SeqAt tr cs (o + x.2.1) r
def AllReads (P : Program) (W : World) : List (TypeId × Nat × (List V → Prop)) → Prop
  | [] => True
  | x :: r => Reads P W x.1 x.2.1 x.2.2 ∧ AllReads P W r

theorem seq_reads {P : Program} {W : World} {H : Type} {enc : TypeId × Value → H} {held : Bool} {fuel : Nat} {cs : List Value} : ∀ {L : List (TypeId × Nat × (List V → Prop))} {o : Nat}, AllReads P W L → o + seqSz L = cs.length →
    SeqAt (fun t c => ∃ x, DataW.trod enc P W 0 (fun _ => true) held fuel t c = some x) cs o L →
    ∃ g : List V, g.length = seqSz L ∧ (∀ v ∈ g, Pu v) ∧ (∀ (j : Nat) (v : V), g[j]? = some v → R (bareK W (fun _ => False)) v (cs.getD (o + j) undef)) ∧ Seq L g
  | [], o, _, _, _ => ⟨[], rfl, fun v hv => (by cases hv), fun j v hv => (by simp at hv), rfl⟩
  | (t, sz, S) :: r, o, ⟨hr, hrr⟩, hlen, ⟨⟨x, hx⟩, hrest⟩ => by
    obtain ⟨g1, a1, a2, a3, a4, a5⟩ := hr H enc held fuel _ x hx
    have a2 : g1.length = sz := a2
    have a1 : ((cs.drop o).take sz).length = sz := a1
    have hlen : o + (sz + seqSz r) = cs.length := hlen
    obtain ⟨g2, b1, b2, b3, b4⟩ := seq_reads (L := r) (o := o + sz) hrr (by omega) hrest
    have b3 : ∀ (j : Nat) (v : V), g2[j]? = some v → R (bareK W (fun _ => False)) v (cs.getD (o + sz + j) undef) := b3
    refine ⟨g1 ++ g2, by simp [seqSz, a2, b1], fun v hv => ?_, fun j v hv => ?_, g1, g2, a5, b4, rfl⟩
    · rcases List.mem_append.1 hv with q | q
      · exact a3 v q
      · exact b2 v q
    · rcases Nat.lt_or_ge j sz with q | q
      · rw [List.getElem?_append_left (by omega)] at hv
        have := a4 j v hv
        have e : ((cs.drop o).take sz).getD j undef = cs.getD (o + j) undef := by
          simp only [List.getD_eq_getElem?_getD]
          rw [List.getElem?_take_of_lt q, List.getElem?_drop]
        rw [e] at this
        exact this
      · rw [List.getElem?_append_right (by omega), a2] at hv
        have := b3 (j - sz) v hv
        rw [show o + sz + (j - sz) = o + j by omega] at this
        exact this

theorem reads_array {P : Program} {W : World} {t e : TypeId} {n sz : Nat} (L : List (TypeId × Nat × (List V → Prop))) (ht : P.underlying t = some (.array n e)) (hc : P.cellsOf t = seqSz L) (he : P.cellsOf e = sz) (hr : AllReads P W L)
    (hat : ∀ (tr : TypeId → List Value → Prop) (cs : List Value), (∀ (i : Nat), i < n → tr e ((cs.drop (i * sz)).take sz)) → SeqAt tr cs 0 L) : Reads P W t (seqSz L) (Seq L) := by
  intro H enc held fuel cs x h
  obtain ⟨xs, m, -, -, h1, h2, h3⟩ := DataW.trod_array ht h
  have := hat (fun t c => ∃ x, DataW.trod enc P W 0 (fun _ => true) held m t c = some x) cs fun i hi => by
    have hi2 : i < xs.length := by omega
    refine ⟨xs[i], ?_⟩
    have := h3 i hi
    rw [he] at this
    rw [this, List.getElem?_eq_getElem hi2]
  obtain ⟨g, g1, g2, g3, g4⟩ := seq_reads (o := 0) hr (by rw [Nat.zero_add, h1, hc]) this
  exact ⟨g, h1.trans hc, g1, g2, fun j v hv => by have := g3 j v hv; rwa [Nat.zero_add] at this, g4⟩

/-- A list of numbers that is laid in a variable. -/
theorem laid_ints {P : Program} {W : World} {H : Type} {enc : TypeId × Value → H} {held : Bool} {fuel : Nat} {t e : TypeId} {n : Nat} {cs : List Value} {zs : List Int} {p : List MemPlace}
    (ht : P.underlying t = some (.array n e)) (he : P.underlying e = some (.int .i64)) (hc : P.cellsOf e = 1) (hct : P.cellsOf t = n)
    (h : DataW.trod enc P W 0 (fun _ => true) held fuel t cs = some (.agg (zs.map fun z => .lit (.int .i64 z)), p)) : ∀ j, j < zs.length → cs[j]? = some (.int .i64 (zs.getD j 0)) := by
  obtain ⟨xs, m, -, hx, h1, h2, h3⟩ := DataW.trod_array ht h
  intro j hj
  simp only [Prod.mk.injEq, DataW.agg.injEq] at hx
  have hlen : zs.length = xs.length := by have := congrArg List.length hx.1; simpa using this
  have hj2 : j < n := by omega
  have h4 := h3 j hj2
  rw [hc, Nat.mul_one, List.getElem?_eq_getElem (by omega)] at h4
  obtain ⟨z, q1, q2, -⟩ := DataW.trod_int he h4
  have e1 : (zs.map fun z => (DataW.lit (.int .i64 z) : DataW H))[j]? = (xs.map (·.1))[j]? := by rw [hx.1]
  rw [List.getElem?_map, List.getElem?_map, List.getElem?_eq_getElem hj, List.getElem?_eq_getElem (by omega : j < xs.length), q2] at e1
  simp only [Option.map_some, Option.some.injEq, DataW.lit.injEq, Lit.int.injEq, true_and] at e1
  have e2 : cs[j]? = ((cs.drop j).take 1)[0]? := by rw [List.getElem?_take_of_lt (by decide), List.getElem?_drop, Nat.add_zero]
  rw [e2, q1, List.getD_eq_getElem?_getD, List.getElem?_eq_getElem hj]
  simp [e1]
end Go.Fly
