/- Part of a proof: an evaluator of the model's code by abstract values, and plain laws for it. No conditions. -/
import Derived.Test.YtfcdodaakhlppaaGreatDoorAN
set_option linter.unusedSimpArgs false
set_option linter.unusedVariables false
/- The office: a register that is being changed. -/
namespace Go.Fly.Off
open Go
def arrTy (r : Reg) : AObj := .arr r.types.length 3 fun i => encTy (el r.types i)
def arrHo (r : Reg) : AObj := .arr r.houses.length 2 fun i => encHo (el r.houses i)
def arrFl (r : Reg) : AObj := .arr r.flights.length 5 fun i => encFl (el r.flights i)
def arrMp (r : Reg) : AObj := .arr r.maps.length 3 fun i => encMp (el r.maps i)
def arrOf (r : Reg) : AObj := .arr r.offers.length 4 fun i => encOf (el r.offers i)
def arrCo (r : Reg) : AObj := .arr r.complaints.length 6 fun i => encCo (el r.complaints i)
/-- Where the parts of a register lie: its variable (with what stands before it there), and its lists. -/
structure Lay where
  box : Loc
  pre : List V
  n0 : Loc
  n1 : Loc
  n2 : Loc
  n3 : Loc
  n4 : Loc
  n5 : Loc
def Lay.locs (y : Lay) : List Loc := [y.box, y.n0, y.n1, y.n2, y.n3, y.n4, y.n5]
def regCells (y : Lay) (r : Reg) : List V :=
  [.int .i64 r.day, .msl y.n0 0 r.types.length, .msl y.n1 0 r.houses.length, .msl y.n2 0 r.flights.length, .msl y.n3 0 r.maps.length, .msl y.n4 0 r.offers.length, .msl y.n5 0 r.complaints.length, .int .i64 r.fund]
structure RegAt (H : Heap) (y : Lay) (r : Reg) : Prop where
  box : H y.box = some (.cells (y.pre ++ regCells y r))
  types : H y.n0 = some (arrTy r)
  houses : H y.n1 = some (arrHo r)
  flights : H y.n2 = some (arrFl r)
  maps : H y.n3 = some (arrMp r)
  offers : H y.n4 = some (arrOf r)
  complaints : H y.n5 = some (arrCo r)
/-- The heap with another register there. -/
def putReg (H : Heap) (y : Lay) (r : Reg) : Heap := fun l =>
  if l = y.box then some (.cells (y.pre ++ regCells y r)) else if l = y.n0 then some (arrTy r) else if l = y.n1 then some (arrHo r) else if l = y.n2 then some (arrFl r)
  else if l = y.n3 then some (arrMp r) else if l = y.n4 then some (arrOf r) else if l = y.n5 then some (arrCo r) else H l
theorem put_put (H : Heap) (y : Lay) (r r' : Reg) : putReg (putReg H y r) y r' = putReg H y r' := by
  funext l
  unfold putReg
  by_cases e0 : l = y.box
  · simp only [if_pos e0]
  by_cases e1 : l = y.n0
  · simp only [if_neg e0, if_pos e1]
  by_cases e2 : l = y.n1
  · simp only [if_neg e0, if_neg e1, if_pos e2]
  by_cases e3 : l = y.n2
  · simp only [if_neg e0, if_neg e1, if_neg e2, if_pos e3]
  by_cases e4 : l = y.n3
  · simp only [if_neg e0, if_neg e1, if_neg e2, if_neg e3, if_pos e4]
  by_cases e5 : l = y.n4
  · simp only [if_neg e0, if_neg e1, if_neg e2, if_neg e3, if_neg e4, if_pos e5]
  by_cases e6 : l = y.n5
  · simp only [if_neg e0, if_neg e1, if_neg e2, if_neg e3, if_neg e4, if_neg e5, if_pos e6]
  · simp only [if_neg e0, if_neg e1, if_neg e2, if_neg e3, if_neg e4, if_neg e5, if_neg e6]
/-- All places differ, and were taken before now. -/
structure LayOk (y : Lay) (ck : Nat) : Prop where
  nd : y.locs.Nodup
  lo : ∀ l ∈ y.locs, 0 < l.1
  hi : ∀ l ∈ y.locs, l.1 ≤ ck
  pre : y.pre = [] ∨ ∃ a b, y.pre = [a, b]
def Lay.off (y : Lay) : Nat := y.pre.length
theorem LayOk.mono {y : Lay} {ck ck' : Nat} (h : LayOk y ck) (hc : ck ≤ ck') : LayOk y ck' := ⟨h.nd, h.lo, fun l hl => Nat.le_trans (h.hi l hl) hc, h.pre⟩
theorem putReg_at {H : Heap} {y : Lay} {ck : Nat} (h : LayOk y ck) (r : Reg) : RegAt (putReg H y r) y r := by
  have hn := h.nd
  simp only [Lay.locs, List.nodup_cons, List.mem_cons, List.not_mem_nil, or_false, not_or] at hn
  obtain ⟨⟨a1, a2, a3, a4, a5, a6⟩, ⟨b1, b2, b3, b4, b5⟩, ⟨c1, c2, c3, c4⟩, ⟨d1, d2, d3⟩, ⟨e1, e2⟩, f1, _⟩ := hn
  refine ⟨?_, ?_, ?_, ?_, ?_, ?_, ?_⟩ <;> unfold putReg
  · rw [if_pos rfl]
  · rw [if_neg (Ne.symm a1), if_pos rfl]
  · rw [if_neg (Ne.symm a2), if_neg (Ne.symm b1), if_pos rfl]
  · rw [if_neg (Ne.symm a3), if_neg (Ne.symm b2), if_neg (Ne.symm c1), if_pos rfl]
  · rw [if_neg (Ne.symm a4), if_neg (Ne.symm b3), if_neg (Ne.symm c2), if_neg (Ne.symm d1), if_pos rfl]
  · rw [if_neg (Ne.symm a5), if_neg (Ne.symm b4), if_neg (Ne.symm c3), if_neg (Ne.symm d2), if_neg (Ne.symm e1), if_pos rfl]
  · rw [if_neg (Ne.symm a6), if_neg (Ne.symm b5), if_neg (Ne.symm c4), if_neg (Ne.symm d3), if_neg (Ne.symm e2), if_neg (Ne.symm f1), if_pos rfl]
/-- Elsewhere the heap is what it was. -/
theorem putReg_ne {H : Heap} {y : Lay} {r : Reg} {l : Loc} (h : l ∉ y.locs) : putReg H y r l = H l := by
  simp only [Lay.locs, List.mem_cons, List.not_mem_nil, or_false, not_or] at h
  obtain ⟨a1, a2, a3, a4, a5, a6, a7⟩ := h
  unfold putReg
  rw [if_neg a1, if_neg a2, if_neg a3, if_neg a4, if_neg a5, if_neg a6, if_neg a7]
/-- A heap that holds at least this of a register there. -/
structure RegLe (S : Heap) (y : Lay) (r : Reg) : Prop where
  box : S y.box = some (.cells (y.pre ++ regCells y r))
  types : ∃ o, S y.n0 = some o ∧ ObjLe o (arrTy r)
  houses : ∃ o, S y.n1 = some o ∧ ObjLe o (arrHo r)
  flights : ∃ o, S y.n2 = some o ∧ ObjLe o (arrFl r)
  maps : ∃ o, S y.n3 = some o ∧ ObjLe o (arrMp r)
  offers : ∃ o, S y.n4 = some o ∧ ObjLe o (arrOf r)
  complaints : ∃ o, S y.n5 = some o ∧ ObjLe o (arrCo r)
/-- A heap that differs in some places alone from another, as far as these were taken. -/
def Chg (S H : Heap) (ck : Nat) (ls : List Loc) : Prop := ∀ l, l.1 ≤ ck → l ∉ ls → S l = H l
theorem Chg.refl (H : Heap) (ck : Nat) (ls : List Loc) : Chg H H ck ls := fun l _ _ => rfl
theorem Chg.mem {S H : Heap} {ck : Nat} {ls : List Loc} {l0 : Loc} {o : AObj} (h : Chg S H ck ls) (hl : l0 ∈ ls) : Chg (updH S l0 o) H ck ls := fun l h1 h2 => by
  rw [updH_ne (by rintro rfl; exact h2 hl)]; exact h l h1 h2
theorem Chg.new {S H : Heap} {ck : Nat} {ls : List Loc} {l0 : Loc} {o : AObj} (h : Chg S H ck ls) (hl : ck < l0.1) : Chg (updH S l0 o) H ck ls := fun l h1 h2 => by
  rw [updH_ne (by rintro rfl; omega)]; exact h l h1 h2
/-- A heap that holds a register there, and what it held before elsewhere, holds what is said to be put. -/
theorem put_le {S H : Heap} {y : Lay} {r : Reg} {ck : Nat} (h : RegLe S y r) (hr : Chg S H ck y.locs) (hf : ∀ l, ck < l.1 → H l = none) : HpLe S (putReg H y r) := by
  intro l o ho
  by_cases hl : l ∈ y.locs
  · unfold putReg at ho
    simp only [Lay.locs, List.mem_cons, List.not_mem_nil, or_false] at hl
    split at ho
    · rename_i e; subst e; cases ho; exact ⟨_, h.box, ObjLe.refl _⟩
    split at ho
    · rename_i e; subst e; cases ho; exact h.types
    split at ho
    · rename_i e; subst e; cases ho; exact h.houses
    split at ho
    · rename_i e; subst e; cases ho; exact h.flights
    split at ho
    · rename_i e; subst e; cases ho; exact h.maps
    split at ho
    · rename_i e; subst e; cases ho; exact h.offers
    split at ho
    · rename_i e; subst e; cases ho; exact h.complaints
    · rename_i n1 n2 n3 n4 n5 n6 n7
      rcases hl with q | q | q | q | q | q | q
      · exact absurd q n1
      · exact absurd q n2
      · exact absurd q n3
      · exact absurd q n4
      · exact absurd q n5
      · exact absurd q n6
      · exact absurd q n7
  · rw [putReg_ne hl] at ho
    refine ⟨o, ?_, ObjLe.refl o⟩
    by_cases q : l.1 ≤ ck
    · rw [hr l q hl]; exact ho
    · rw [hf l (by omega)] at ho; cases ho
theorem freshF {l : Loc} {ck c d : Nat} (h : l.1 ≤ ck) (hc : ck < c) : (l = (c, d)) = False := eq_false (by rintro rfl; simp at h; omega)
theorem freshG {l : Loc} {ck c d : Nat} (h : l.1 ≤ ck) (hc : ck < c) : ((c, d) = l) = False := eq_false (by rintro rfl; simp at h; omega)
/-- A longer array. -/
theorem objLe_snoc {α : Type} [Inhabited α] {f : α → List V} {sz n : Nat} {g : Nat → List V} {l : List α} {x : α} (hn : n = l.length + 1) (h : ∀ j, j < l.length + 1 → f (el (l ++ [x]) j) = g j) : ObjLe (.arr n sz g) (.arr (l ++ [x]).length sz fun i => f (el (l ++ [x]) i)) :=
  ⟨by rw [hn, List.length_append]; rfl, rfl, fun i hi => h i (by omega)⟩
theorem put_types {S H : Heap} {y : Lay} {r r' : Reg} {ck : Nat} (hy : LayOk y ck) (hat : RegAt H y r) (hf : ∀ l, ck < l.1 → H l = none) (hc : Chg S H ck [y.box, y.n0]) (hb : S y.box = some (.cells (y.pre ++ regCells y r'))) (ht : ∃ o, S y.n0 = some o ∧ ObjLe o (arrTy r')) (e_houses : r'.houses = r.houses) (e_flights : r'.flights = r.flights) (e_maps : r'.maps = r.maps) (e_offers : r'.offers = r.offers) (e_complaints : r'.complaints = r.complaints) : HpLe S (putReg H y r') := by
  have nd := hy.nd
  simp only [Lay.locs, List.nodup_cons, List.mem_cons, List.not_mem_nil, or_false, not_or] at nd
  obtain ⟨⟨a1, a2, a3, a4, a5, a6⟩, ⟨b1, b2, b3, b4, b5⟩, ⟨c1, c2, c3, c4⟩, ⟨d1, d2, d3⟩, ⟨e1, e2⟩, f1, _⟩ := nd
  refine put_le (ck := ck) ⟨hb, ht, ?_, ?_, ?_, ?_, ?_⟩ (fun l h1 h2 => hc l h1 fun h3 => h2 ?_) hf
  · exact ⟨_, (hc y.n1 (hy.hi _ (by simp [Lay.locs])) (by simp only [List.mem_cons, List.not_mem_nil, or_false, not_or]; first | exact ⟨Ne.symm ‹_›, ‹_›⟩ | exact ⟨Ne.symm ‹_›, Ne.symm ‹_›⟩ | exact Ne.symm ‹_›)).trans hat.houses, by unfold arrHo; rw [e_houses]; exact ObjLe.refl _⟩
  · exact ⟨_, (hc y.n2 (hy.hi _ (by simp [Lay.locs])) (by simp only [List.mem_cons, List.not_mem_nil, or_false, not_or]; first | exact ⟨Ne.symm ‹_›, ‹_›⟩ | exact ⟨Ne.symm ‹_›, Ne.symm ‹_›⟩ | exact Ne.symm ‹_›)).trans hat.flights, by unfold arrFl; rw [e_flights]; exact ObjLe.refl _⟩
  · exact ⟨_, (hc y.n3 (hy.hi _ (by simp [Lay.locs])) (by simp only [List.mem_cons, List.not_mem_nil, or_false, not_or]; first | exact ⟨Ne.symm ‹_›, ‹_›⟩ | exact ⟨Ne.symm ‹_›, Ne.symm ‹_›⟩ | exact Ne.symm ‹_›)).trans hat.maps, by unfold arrMp; rw [e_maps]; exact ObjLe.refl _⟩
  · exact ⟨_, (hc y.n4 (hy.hi _ (by simp [Lay.locs])) (by simp only [List.mem_cons, List.not_mem_nil, or_false, not_or]; first | exact ⟨Ne.symm ‹_›, ‹_›⟩ | exact ⟨Ne.symm ‹_›, Ne.symm ‹_›⟩ | exact Ne.symm ‹_›)).trans hat.offers, by unfold arrOf; rw [e_offers]; exact ObjLe.refl _⟩
  · exact ⟨_, (hc y.n5 (hy.hi _ (by simp [Lay.locs])) (by simp only [List.mem_cons, List.not_mem_nil, or_false, not_or]; first | exact ⟨Ne.symm ‹_›, ‹_›⟩ | exact ⟨Ne.symm ‹_›, Ne.symm ‹_›⟩ | exact Ne.symm ‹_›)).trans hat.complaints, by unfold arrCo; rw [e_complaints]; exact ObjLe.refl _⟩
  · simp only [List.mem_cons, List.not_mem_nil, or_false] at h3
    simp only [Lay.locs, List.mem_cons, List.not_mem_nil, or_false]
    rcases h3 with h3 | h3 <;> simp [h3]
theorem put_houses {S H : Heap} {y : Lay} {r r' : Reg} {ck : Nat} (hy : LayOk y ck) (hat : RegAt H y r) (hf : ∀ l, ck < l.1 → H l = none) (hc : Chg S H ck [y.box, y.n1]) (hb : S y.box = some (.cells (y.pre ++ regCells y r'))) (ht : ∃ o, S y.n1 = some o ∧ ObjLe o (arrHo r')) (e_types : r'.types = r.types) (e_flights : r'.flights = r.flights) (e_maps : r'.maps = r.maps) (e_offers : r'.offers = r.offers) (e_complaints : r'.complaints = r.complaints) : HpLe S (putReg H y r') := by
  have nd := hy.nd
  simp only [Lay.locs, List.nodup_cons, List.mem_cons, List.not_mem_nil, or_false, not_or] at nd
  obtain ⟨⟨a1, a2, a3, a4, a5, a6⟩, ⟨b1, b2, b3, b4, b5⟩, ⟨c1, c2, c3, c4⟩, ⟨d1, d2, d3⟩, ⟨e1, e2⟩, f1, _⟩ := nd
  refine put_le (ck := ck) ⟨hb, ?_, ht, ?_, ?_, ?_, ?_⟩ (fun l h1 h2 => hc l h1 fun h3 => h2 ?_) hf
  · exact ⟨_, (hc y.n0 (hy.hi _ (by simp [Lay.locs])) (by simp only [List.mem_cons, List.not_mem_nil, or_false, not_or]; first | exact ⟨Ne.symm ‹_›, ‹_›⟩ | exact ⟨Ne.symm ‹_›, Ne.symm ‹_›⟩ | exact Ne.symm ‹_›)).trans hat.types, by unfold arrTy; rw [e_types]; exact ObjLe.refl _⟩
  · exact ⟨_, (hc y.n2 (hy.hi _ (by simp [Lay.locs])) (by simp only [List.mem_cons, List.not_mem_nil, or_false, not_or]; first | exact ⟨Ne.symm ‹_›, ‹_›⟩ | exact ⟨Ne.symm ‹_›, Ne.symm ‹_›⟩ | exact Ne.symm ‹_›)).trans hat.flights, by unfold arrFl; rw [e_flights]; exact ObjLe.refl _⟩
  · exact ⟨_, (hc y.n3 (hy.hi _ (by simp [Lay.locs])) (by simp only [List.mem_cons, List.not_mem_nil, or_false, not_or]; first | exact ⟨Ne.symm ‹_›, ‹_›⟩ | exact ⟨Ne.symm ‹_›, Ne.symm ‹_›⟩ | exact Ne.symm ‹_›)).trans hat.maps, by unfold arrMp; rw [e_maps]; exact ObjLe.refl _⟩
  · exact ⟨_, (hc y.n4 (hy.hi _ (by simp [Lay.locs])) (by simp only [List.mem_cons, List.not_mem_nil, or_false, not_or]; first | exact ⟨Ne.symm ‹_›, ‹_›⟩ | exact ⟨Ne.symm ‹_›, Ne.symm ‹_›⟩ | exact Ne.symm ‹_›)).trans hat.offers, by unfold arrOf; rw [e_offers]; exact ObjLe.refl _⟩
  · exact ⟨_, (hc y.n5 (hy.hi _ (by simp [Lay.locs])) (by simp only [List.mem_cons, List.not_mem_nil, or_false, not_or]; first | exact ⟨Ne.symm ‹_›, ‹_›⟩ | exact ⟨Ne.symm ‹_›, Ne.symm ‹_›⟩ | exact Ne.symm ‹_›)).trans hat.complaints, by unfold arrCo; rw [e_complaints]; exact ObjLe.refl _⟩
  · simp only [List.mem_cons, List.not_mem_nil, or_false] at h3
    simp only [Lay.locs, List.mem_cons, List.not_mem_nil, or_false]
    rcases h3 with h3 | h3 <;> simp [h3]
theorem put_flights {S H : Heap} {y : Lay} {r r' : Reg} {ck : Nat} (hy : LayOk y ck) (hat : RegAt H y r) (hf : ∀ l, ck < l.1 → H l = none) (hc : Chg S H ck [y.box, y.n2]) (hb : S y.box = some (.cells (y.pre ++ regCells y r'))) (ht : ∃ o, S y.n2 = some o ∧ ObjLe o (arrFl r')) (e_types : r'.types = r.types) (e_houses : r'.houses = r.houses) (e_maps : r'.maps = r.maps) (e_offers : r'.offers = r.offers) (e_complaints : r'.complaints = r.complaints) : HpLe S (putReg H y r') := by
  have nd := hy.nd
  simp only [Lay.locs, List.nodup_cons, List.mem_cons, List.not_mem_nil, or_false, not_or] at nd
  obtain ⟨⟨a1, a2, a3, a4, a5, a6⟩, ⟨b1, b2, b3, b4, b5⟩, ⟨c1, c2, c3, c4⟩, ⟨d1, d2, d3⟩, ⟨e1, e2⟩, f1, _⟩ := nd
  refine put_le (ck := ck) ⟨hb, ?_, ?_, ht, ?_, ?_, ?_⟩ (fun l h1 h2 => hc l h1 fun h3 => h2 ?_) hf
  · exact ⟨_, (hc y.n0 (hy.hi _ (by simp [Lay.locs])) (by simp only [List.mem_cons, List.not_mem_nil, or_false, not_or]; first | exact ⟨Ne.symm ‹_›, ‹_›⟩ | exact ⟨Ne.symm ‹_›, Ne.symm ‹_›⟩ | exact Ne.symm ‹_›)).trans hat.types, by unfold arrTy; rw [e_types]; exact ObjLe.refl _⟩
  · exact ⟨_, (hc y.n1 (hy.hi _ (by simp [Lay.locs])) (by simp only [List.mem_cons, List.not_mem_nil, or_false, not_or]; first | exact ⟨Ne.symm ‹_›, ‹_›⟩ | exact ⟨Ne.symm ‹_›, Ne.symm ‹_›⟩ | exact Ne.symm ‹_›)).trans hat.houses, by unfold arrHo; rw [e_houses]; exact ObjLe.refl _⟩
  · exact ⟨_, (hc y.n3 (hy.hi _ (by simp [Lay.locs])) (by simp only [List.mem_cons, List.not_mem_nil, or_false, not_or]; first | exact ⟨Ne.symm ‹_›, ‹_›⟩ | exact ⟨Ne.symm ‹_›, Ne.symm ‹_›⟩ | exact Ne.symm ‹_›)).trans hat.maps, by unfold arrMp; rw [e_maps]; exact ObjLe.refl _⟩
  · exact ⟨_, (hc y.n4 (hy.hi _ (by simp [Lay.locs])) (by simp only [List.mem_cons, List.not_mem_nil, or_false, not_or]; first | exact ⟨Ne.symm ‹_›, ‹_›⟩ | exact ⟨Ne.symm ‹_›, Ne.symm ‹_›⟩ | exact Ne.symm ‹_›)).trans hat.offers, by unfold arrOf; rw [e_offers]; exact ObjLe.refl _⟩
  · exact ⟨_, (hc y.n5 (hy.hi _ (by simp [Lay.locs])) (by simp only [List.mem_cons, List.not_mem_nil, or_false, not_or]; first | exact ⟨Ne.symm ‹_›, ‹_›⟩ | exact ⟨Ne.symm ‹_›, Ne.symm ‹_›⟩ | exact Ne.symm ‹_›)).trans hat.complaints, by unfold arrCo; rw [e_complaints]; exact ObjLe.refl _⟩
  · simp only [List.mem_cons, List.not_mem_nil, or_false] at h3
    simp only [Lay.locs, List.mem_cons, List.not_mem_nil, or_false]
    rcases h3 with h3 | h3 <;> simp [h3]
theorem put_maps {S H : Heap} {y : Lay} {r r' : Reg} {ck : Nat} (hy : LayOk y ck) (hat : RegAt H y r) (hf : ∀ l, ck < l.1 → H l = none) (hc : Chg S H ck [y.box, y.n3]) (hb : S y.box = some (.cells (y.pre ++ regCells y r'))) (ht : ∃ o, S y.n3 = some o ∧ ObjLe o (arrMp r')) (e_types : r'.types = r.types) (e_houses : r'.houses = r.houses) (e_flights : r'.flights = r.flights) (e_offers : r'.offers = r.offers) (e_complaints : r'.complaints = r.complaints) : HpLe S (putReg H y r') := by
  have nd := hy.nd
  simp only [Lay.locs, List.nodup_cons, List.mem_cons, List.not_mem_nil, or_false, not_or] at nd
  obtain ⟨⟨a1, a2, a3, a4, a5, a6⟩, ⟨b1, b2, b3, b4, b5⟩, ⟨c1, c2, c3, c4⟩, ⟨d1, d2, d3⟩, ⟨e1, e2⟩, f1, _⟩ := nd
  refine put_le (ck := ck) ⟨hb, ?_, ?_, ?_, ht, ?_, ?_⟩ (fun l h1 h2 => hc l h1 fun h3 => h2 ?_) hf
  · exact ⟨_, (hc y.n0 (hy.hi _ (by simp [Lay.locs])) (by simp only [List.mem_cons, List.not_mem_nil, or_false, not_or]; first | exact ⟨Ne.symm ‹_›, ‹_›⟩ | exact ⟨Ne.symm ‹_›, Ne.symm ‹_›⟩ | exact Ne.symm ‹_›)).trans hat.types, by unfold arrTy; rw [e_types]; exact ObjLe.refl _⟩
  · exact ⟨_, (hc y.n1 (hy.hi _ (by simp [Lay.locs])) (by simp only [List.mem_cons, List.not_mem_nil, or_false, not_or]; first | exact ⟨Ne.symm ‹_›, ‹_›⟩ | exact ⟨Ne.symm ‹_›, Ne.symm ‹_›⟩ | exact Ne.symm ‹_›)).trans hat.houses, by unfold arrHo; rw [e_houses]; exact ObjLe.refl _⟩
  · exact ⟨_, (hc y.n2 (hy.hi _ (by simp [Lay.locs])) (by simp only [List.mem_cons, List.not_mem_nil, or_false, not_or]; first | exact ⟨Ne.symm ‹_›, ‹_›⟩ | exact ⟨Ne.symm ‹_›, Ne.symm ‹_›⟩ | exact Ne.symm ‹_›)).trans hat.flights, by unfold arrFl; rw [e_flights]; exact ObjLe.refl _⟩
  · exact ⟨_, (hc y.n4 (hy.hi _ (by simp [Lay.locs])) (by simp only [List.mem_cons, List.not_mem_nil, or_false, not_or]; first | exact ⟨Ne.symm ‹_›, ‹_›⟩ | exact ⟨Ne.symm ‹_›, Ne.symm ‹_›⟩ | exact Ne.symm ‹_›)).trans hat.offers, by unfold arrOf; rw [e_offers]; exact ObjLe.refl _⟩
  · exact ⟨_, (hc y.n5 (hy.hi _ (by simp [Lay.locs])) (by simp only [List.mem_cons, List.not_mem_nil, or_false, not_or]; first | exact ⟨Ne.symm ‹_›, ‹_›⟩ | exact ⟨Ne.symm ‹_›, Ne.symm ‹_›⟩ | exact Ne.symm ‹_›)).trans hat.complaints, by unfold arrCo; rw [e_complaints]; exact ObjLe.refl _⟩
  · simp only [List.mem_cons, List.not_mem_nil, or_false] at h3
    simp only [Lay.locs, List.mem_cons, List.not_mem_nil, or_false]
    rcases h3 with h3 | h3 <;> simp [h3]
theorem put_offers {S H : Heap} {y : Lay} {r r' : Reg} {ck : Nat} (hy : LayOk y ck) (hat : RegAt H y r) (hf : ∀ l, ck < l.1 → H l = none) (hc : Chg S H ck [y.box, y.n4]) (hb : S y.box = some (.cells (y.pre ++ regCells y r'))) (ht : ∃ o, S y.n4 = some o ∧ ObjLe o (arrOf r')) (e_types : r'.types = r.types) (e_houses : r'.houses = r.houses) (e_flights : r'.flights = r.flights) (e_maps : r'.maps = r.maps) (e_complaints : r'.complaints = r.complaints) : HpLe S (putReg H y r') := by
  have nd := hy.nd
  simp only [Lay.locs, List.nodup_cons, List.mem_cons, List.not_mem_nil, or_false, not_or] at nd
  obtain ⟨⟨a1, a2, a3, a4, a5, a6⟩, ⟨b1, b2, b3, b4, b5⟩, ⟨c1, c2, c3, c4⟩, ⟨d1, d2, d3⟩, ⟨e1, e2⟩, f1, _⟩ := nd
  refine put_le (ck := ck) ⟨hb, ?_, ?_, ?_, ?_, ht, ?_⟩ (fun l h1 h2 => hc l h1 fun h3 => h2 ?_) hf
  · exact ⟨_, (hc y.n0 (hy.hi _ (by simp [Lay.locs])) (by simp only [List.mem_cons, List.not_mem_nil, or_false, not_or]; first | exact ⟨Ne.symm ‹_›, ‹_›⟩ | exact ⟨Ne.symm ‹_›, Ne.symm ‹_›⟩ | exact Ne.symm ‹_›)).trans hat.types, by unfold arrTy; rw [e_types]; exact ObjLe.refl _⟩
  · exact ⟨_, (hc y.n1 (hy.hi _ (by simp [Lay.locs])) (by simp only [List.mem_cons, List.not_mem_nil, or_false, not_or]; first | exact ⟨Ne.symm ‹_›, ‹_›⟩ | exact ⟨Ne.symm ‹_›, Ne.symm ‹_›⟩ | exact Ne.symm ‹_›)).trans hat.houses, by unfold arrHo; rw [e_houses]; exact ObjLe.refl _⟩
  · exact ⟨_, (hc y.n2 (hy.hi _ (by simp [Lay.locs])) (by simp only [List.mem_cons, List.not_mem_nil, or_false, not_or]; first | exact ⟨Ne.symm ‹_›, ‹_›⟩ | exact ⟨Ne.symm ‹_›, Ne.symm ‹_›⟩ | exact Ne.symm ‹_›)).trans hat.flights, by unfold arrFl; rw [e_flights]; exact ObjLe.refl _⟩
  · exact ⟨_, (hc y.n3 (hy.hi _ (by simp [Lay.locs])) (by simp only [List.mem_cons, List.not_mem_nil, or_false, not_or]; first | exact ⟨Ne.symm ‹_›, ‹_›⟩ | exact ⟨Ne.symm ‹_›, Ne.symm ‹_›⟩ | exact Ne.symm ‹_›)).trans hat.maps, by unfold arrMp; rw [e_maps]; exact ObjLe.refl _⟩
  · exact ⟨_, (hc y.n5 (hy.hi _ (by simp [Lay.locs])) (by simp only [List.mem_cons, List.not_mem_nil, or_false, not_or]; first | exact ⟨Ne.symm ‹_›, ‹_›⟩ | exact ⟨Ne.symm ‹_›, Ne.symm ‹_›⟩ | exact Ne.symm ‹_›)).trans hat.complaints, by unfold arrCo; rw [e_complaints]; exact ObjLe.refl _⟩
  · simp only [List.mem_cons, List.not_mem_nil, or_false] at h3
    simp only [Lay.locs, List.mem_cons, List.not_mem_nil, or_false]
    rcases h3 with h3 | h3 <;> simp [h3]
theorem put_complaints {S H : Heap} {y : Lay} {r r' : Reg} {ck : Nat} (hy : LayOk y ck) (hat : RegAt H y r) (hf : ∀ l, ck < l.1 → H l = none) (hc : Chg S H ck [y.box, y.n5]) (hb : S y.box = some (.cells (y.pre ++ regCells y r'))) (ht : ∃ o, S y.n5 = some o ∧ ObjLe o (arrCo r')) (e_types : r'.types = r.types) (e_houses : r'.houses = r.houses) (e_flights : r'.flights = r.flights) (e_maps : r'.maps = r.maps) (e_offers : r'.offers = r.offers) : HpLe S (putReg H y r') := by
  have nd := hy.nd
  simp only [Lay.locs, List.nodup_cons, List.mem_cons, List.not_mem_nil, or_false, not_or] at nd
  obtain ⟨⟨a1, a2, a3, a4, a5, a6⟩, ⟨b1, b2, b3, b4, b5⟩, ⟨c1, c2, c3, c4⟩, ⟨d1, d2, d3⟩, ⟨e1, e2⟩, f1, _⟩ := nd
  refine put_le (ck := ck) ⟨hb, ?_, ?_, ?_, ?_, ?_, ht⟩ (fun l h1 h2 => hc l h1 fun h3 => h2 ?_) hf
  · exact ⟨_, (hc y.n0 (hy.hi _ (by simp [Lay.locs])) (by simp only [List.mem_cons, List.not_mem_nil, or_false, not_or]; first | exact ⟨Ne.symm ‹_›, ‹_›⟩ | exact ⟨Ne.symm ‹_›, Ne.symm ‹_›⟩ | exact Ne.symm ‹_›)).trans hat.types, by unfold arrTy; rw [e_types]; exact ObjLe.refl _⟩
  · exact ⟨_, (hc y.n1 (hy.hi _ (by simp [Lay.locs])) (by simp only [List.mem_cons, List.not_mem_nil, or_false, not_or]; first | exact ⟨Ne.symm ‹_›, ‹_›⟩ | exact ⟨Ne.symm ‹_›, Ne.symm ‹_›⟩ | exact Ne.symm ‹_›)).trans hat.houses, by unfold arrHo; rw [e_houses]; exact ObjLe.refl _⟩
  · exact ⟨_, (hc y.n2 (hy.hi _ (by simp [Lay.locs])) (by simp only [List.mem_cons, List.not_mem_nil, or_false, not_or]; first | exact ⟨Ne.symm ‹_›, ‹_›⟩ | exact ⟨Ne.symm ‹_›, Ne.symm ‹_›⟩ | exact Ne.symm ‹_›)).trans hat.flights, by unfold arrFl; rw [e_flights]; exact ObjLe.refl _⟩
  · exact ⟨_, (hc y.n3 (hy.hi _ (by simp [Lay.locs])) (by simp only [List.mem_cons, List.not_mem_nil, or_false, not_or]; first | exact ⟨Ne.symm ‹_›, ‹_›⟩ | exact ⟨Ne.symm ‹_›, Ne.symm ‹_›⟩ | exact Ne.symm ‹_›)).trans hat.maps, by unfold arrMp; rw [e_maps]; exact ObjLe.refl _⟩
  · exact ⟨_, (hc y.n4 (hy.hi _ (by simp [Lay.locs])) (by simp only [List.mem_cons, List.not_mem_nil, or_false, not_or]; first | exact ⟨Ne.symm ‹_›, ‹_›⟩ | exact ⟨Ne.symm ‹_›, Ne.symm ‹_›⟩ | exact Ne.symm ‹_›)).trans hat.offers, by unfold arrOf; rw [e_offers]; exact ObjLe.refl _⟩
  · simp only [List.mem_cons, List.not_mem_nil, or_false] at h3
    simp only [Lay.locs, List.mem_cons, List.not_mem_nil, or_false]
    rcases h3 with h3 | h3 <;> simp [h3]
theorem put_box {S H : Heap} {y : Lay} {r r' : Reg} {ck : Nat} (hy : LayOk y ck) (hat : RegAt H y r) (hf : ∀ l, ck < l.1 → H l = none) (hc : Chg S H ck [y.box]) (hb : S y.box = some (.cells (y.pre ++ regCells y r'))) (e_types : r'.types = r.types) (e_houses : r'.houses = r.houses) (e_flights : r'.flights = r.flights) (e_maps : r'.maps = r.maps) (e_offers : r'.offers = r.offers) (e_complaints : r'.complaints = r.complaints) : HpLe S (putReg H y r') := by
  have nd := hy.nd
  simp only [Lay.locs, List.nodup_cons, List.mem_cons, List.not_mem_nil, or_false, not_or] at nd
  obtain ⟨⟨a1, a2, a3, a4, a5, a6⟩, ⟨b1, b2, b3, b4, b5⟩, ⟨c1, c2, c3, c4⟩, ⟨d1, d2, d3⟩, ⟨e1, e2⟩, f1, _⟩ := nd
  refine put_le (ck := ck) ⟨hb, ?_, ?_, ?_, ?_, ?_, ?_⟩ (fun l h1 h2 => hc l h1 fun h3 => h2 ?_) hf
  · exact ⟨_, (hc y.n0 (hy.hi _ (by simp [Lay.locs])) (by simp only [List.mem_cons, List.not_mem_nil, or_false, not_or]; first | exact ⟨Ne.symm ‹_›, ‹_›⟩ | exact ⟨Ne.symm ‹_›, Ne.symm ‹_›⟩ | exact Ne.symm ‹_›)).trans hat.types, by unfold arrTy; rw [e_types]; exact ObjLe.refl _⟩
  · exact ⟨_, (hc y.n1 (hy.hi _ (by simp [Lay.locs])) (by simp only [List.mem_cons, List.not_mem_nil, or_false, not_or]; first | exact ⟨Ne.symm ‹_›, ‹_›⟩ | exact ⟨Ne.symm ‹_›, Ne.symm ‹_›⟩ | exact Ne.symm ‹_›)).trans hat.houses, by unfold arrHo; rw [e_houses]; exact ObjLe.refl _⟩
  · exact ⟨_, (hc y.n2 (hy.hi _ (by simp [Lay.locs])) (by simp only [List.mem_cons, List.not_mem_nil, or_false, not_or]; first | exact ⟨Ne.symm ‹_›, ‹_›⟩ | exact ⟨Ne.symm ‹_›, Ne.symm ‹_›⟩ | exact Ne.symm ‹_›)).trans hat.flights, by unfold arrFl; rw [e_flights]; exact ObjLe.refl _⟩
  · exact ⟨_, (hc y.n3 (hy.hi _ (by simp [Lay.locs])) (by simp only [List.mem_cons, List.not_mem_nil, or_false, not_or]; first | exact ⟨Ne.symm ‹_›, ‹_›⟩ | exact ⟨Ne.symm ‹_›, Ne.symm ‹_›⟩ | exact Ne.symm ‹_›)).trans hat.maps, by unfold arrMp; rw [e_maps]; exact ObjLe.refl _⟩
  · exact ⟨_, (hc y.n4 (hy.hi _ (by simp [Lay.locs])) (by simp only [List.mem_cons, List.not_mem_nil, or_false, not_or]; first | exact ⟨Ne.symm ‹_›, ‹_›⟩ | exact ⟨Ne.symm ‹_›, Ne.symm ‹_›⟩ | exact Ne.symm ‹_›)).trans hat.offers, by unfold arrOf; rw [e_offers]; exact ObjLe.refl _⟩
  · exact ⟨_, (hc y.n5 (hy.hi _ (by simp [Lay.locs])) (by simp only [List.mem_cons, List.not_mem_nil, or_false, not_or]; first | exact ⟨Ne.symm ‹_›, ‹_›⟩ | exact ⟨Ne.symm ‹_›, Ne.symm ‹_›⟩ | exact Ne.symm ‹_›)).trans hat.complaints, by unfold arrCo; rw [e_complaints]; exact ObjLe.refl _⟩
  · simp only [List.mem_cons, List.not_mem_nil, or_false] at h3
    simp only [Lay.locs, List.mem_cons, List.not_mem_nil, or_false]
    simp [h3]

theorem el_modify {α : Type} [Inhabited α] (l : List α) (p : Nat) (h : α → α) {i : Nat} (hi : i < l.length) : el (l.modify p h) i = if i = p then h (el l i) else el l i := by
  have h1 : i < (l.modify p h).length := by rw [List.length_modify]; exact hi
  rw [el_get _ h1, el_get _ hi, List.getElem_modify]
  by_cases q : p = i
  · rw [if_pos q, if_pos q.symm]
  · rw [if_neg q, if_neg fun e => q e.symm]
theorem objLe_mod {α : Type} [Inhabited α] {f : α → List V} {sz : Nat} {l : List α} {p : Nat} {h : α → α} {g : Nat → List V} (hg : ∀ i, i < l.length → g i = if i = p then f (h (el l i)) else f (el l i)) :
    ObjLe (.arr l.length sz g) (.arr (l.modify p h).length sz fun i => f (el (l.modify p h) i)) :=
  ⟨List.length_modify .. |>.symm, rfl, fun i hi => by
    show f (el (l.modify p h) i) = g i
    rw [el_modify l p h hi, hg i hi]
    split <;> rfl⟩
theorem place_lt_of {α : Type} {l : List α} {f : α → Str} {s : Str} (h : s ∈ l.map f) : place (l.map f) s < l.length := by
  have := place_lt h
  rwa [List.length_map] at this
end Go.Fly.Off
