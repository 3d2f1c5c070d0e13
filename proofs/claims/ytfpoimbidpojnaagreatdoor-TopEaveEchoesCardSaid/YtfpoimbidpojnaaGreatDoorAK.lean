/- Part of a proof: an evaluator of the model's code by abstract values, and plain laws for it. No conditions. -/
import Derived.Test.YtfpoimbidpojnaaGreatDoorAJ
set_option linter.unusedSimpArgs false
set_option linter.unusedVariables false
/- Freezing an array that a variable holds. -/
namespace Go.Fly
open Go

/-- A slice in a variable that is nil, as an array of the call's own that is empty. -/
theorem Ents.nilC {k0 : K} {s : St} {l l2 : Loc} {cs : List V} {j : Nat} (sz : Nat) (get : Nat → List V) (hne : l2 ≠ l) (hc : s.hp l2 = some (.cells cs)) (hj : cs[j]? = some .nils) (hl : s.hp l = none) (hck : l.1 = s.ck) :
    Ents k0 s ⟨s.ck, s.tm, updH (updH s.hp l (.arr 0 sz get)) l2 (.cells (cs.set j (.msl l 0 0)))⟩ := by
  intro a w ⟨M, B, hst, hk, ht, hm⟩
  obtain ⟨q1, q2, q3⟩ := new_nil hk (l := l) hl hck sz get
  have ho : ∀ b, (mkK w M B s.hp s.ck).owned b → (mkK w M B s.hp s.ck).M b := fun b hb => (hk.own b hb).1
  have ho1 : ∀ b, (mkK w M (updB B l none) (updH s.hp l (.arr 0 sz get)) s.ck).owned b → (mkK w M (updB B l none) (updH s.hp l (.arr 0 sz get)) s.ck).M b := fun b hb => (q2.own b hb).1
  have hc1 : updH s.hp l (.arr 0 sz get) l2 = some (.cells cs) := by rw [updH_ne hne]; exact hc
  obtain ⟨b, c, xs, ty, fz, g1, g2, g3, g4, g5⟩ := hk.obj l2 _ hc
  have hB : updB B l none l2 = some (b, c) := by rw [updB_ne hne]; exact g1
  obtain ⟨p1, p2⟩ := write_ok q2 (l := l2) hc1 (o' := .cells (cs.set j (.msl l 0 0))) hB ⟨⟨cs, rfl⟩, rfl⟩ (w' := w) ⟨rfl, rfl, rfl, rfl⟩ (fun _ _ => rfl)
    (fun k' hw hB' st => ⟨b, c, xs, ty, fz, hB', by rw [hw]; exact g2, g3, by simpa using g4, fun i v hv => by
      rw [List.getElem?_set] at hv
      by_cases e : j = i
      · subst e
        have hlt := (List.getElem?_eq_some_iff.1 hj).1
        simp only [if_true, hlt, Option.some.injEq] at hv
        subst hv
        have := (g5 j _ hj).nils_inv
        rw [this]
        exact q3.step st ho1
      · simp only [e, if_false] at hv
        exact ((g5 i v hv).step q1 ho).step st ho1⟩)
  exact ⟨M, updB B l none, hst.trans (q1.trans p1), p2, (ht.step q1 ho).step p1 ho1, (hm.step q1).step p1⟩

theorem HpLe.drop {hp : Heap} {l : Loc} {a : AObj} (h : hp l = Option.none) : HpLe (updH hp l a) hp := by
  intro l' o' h'
  by_cases e : l' = l
  · subst e; rw [h] at h'; cases h'
  · exact ⟨o', by rw [updH_ne e]; exact h', ObjLe.refl _⟩
theorem HpLe.drop2 {hp : Heap} {l : Loc} {a b : AObj} (h : hp l = Option.none) : HpLe (updH (updH hp l a) l b) hp := by
  intro l' o' h'
  by_cases e : l' = l
  · subst e; rw [h] at h'; cases h'
  · exact ⟨o', by rw [updH_ne e, updH_ne e]; exact h', ObjLe.refl _⟩
theorem over_le {bot top lo hi : Int} (h : lo ≤ hi) : 0 ≤ overE bot top lo hi ∧ overE bot top lo hi ≤ hi - lo := by unfold overE; omega
theorem over_zero {bot top : Int} (h : 0 ≤ bot) (h2 : 0 ≤ top) : overE bot top 0 0 = 0 := by unfold overE; omega
theorem objLe_arr {n sz : Nat} {get get' : Nat → List V} (h : ∀ j, j < n → get' j = get j) : ObjLe (.arr n sz get) (.arr n sz get') := ⟨rfl, rfl, h⟩
theorem HpLe.again {hp : Heap} {l : Loc} {a b b' : AObj} (h : ObjLe b b') : HpLe (updH (updH hp l a) l b) (updH hp l b') := by
  intro l' o' h'
  by_cases e : l' = l
  · subst e
    rw [updH_same] at h' ⊢
    cases h'
    exact ⟨b, rfl, h⟩
  · rw [updH_ne e] at h'
    exact ⟨o', by rw [updH_ne e, updH_ne e]; exact h', ObjLe.refl _⟩
theorem HpLe.upd1 {hp : Heap} {l : Loc} {o o' : AObj} (h : hp l = some o) (ho : ObjLe o o') : HpLe hp (updH hp l o') := HpLe.upd (HpLe.refl hp) ⟨o, h, ho⟩
end Go.Fly
