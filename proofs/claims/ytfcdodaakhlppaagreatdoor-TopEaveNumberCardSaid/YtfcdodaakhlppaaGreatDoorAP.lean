/- Part of a proof: an evaluator of the model's code by abstract values, and plain laws for it. No conditions. -/
import Derived.Test.YtfcdodaakhlppaaGreatDoorAJ
import Derived.Test.YtfcdodaakhlppaaGreatDoorAO
set_option linter.unusedSimpArgs false
set_option linter.unusedVariables false
section
/- Freezing an array that a row of another array holds. -/
namespace Go.Fly
open Go

theorem Ents.killR {k0 : K} {s : St} {l l2 : Loc} {n sz n2 sz2 : Nat} {get get2 : Nat → List V} {i0 j0 : Nat} (hne : l2 ≠ l) (hl : s.hp l = some (.arr n sz get)) (hc : s.hp l2 = some (.arr n2 sz2 get2)) (hi : i0 < n2) (hj : (get2 i0)[j0]? = some (.msl l 0 n)) (hpr : ∀ (i j : Nat) (v : V), i < n → (get i)[j]? = some v → Pu v) :
    Ents k0 s ⟨s.ck, s.tm, updH (updH s.hp l .dead) l2 (.arr n2 sz2 fun i => if i = i0 then (get2 i).set j0 (.sl n sz get) else get2 i)⟩ := by
  intro a w ⟨M, B, hst, hk, ht, hm⟩
  obtain ⟨M', B', q1, q2, q3⟩ := kill_ok hk hl hpr
  have ho : ∀ b, (mkK w M B s.hp s.ck).owned b → (mkK w M B s.hp s.ck).M b := fun b hb => (hk.own b hb).1
  have ho1 : ∀ b, (mkK w M' B' (updH s.hp l .dead) s.ck).owned b → (mkK w M' B' (updH s.hp l .dead) s.ck).M b := fun b hb => (q2.own b hb).1
  have hc1 : updH s.hp l .dead l2 = some (.arr n2 sz2 get2) := by rw [updH_ne hne]; exact hc
  obtain ⟨g1, g2, g3⟩ := hk.obj l2 _ hc
  have g3' : match B l2 with
    | none => n2 = 0
    | some (b, c) => n2 ≤ c ∧ ∃ xs ty fz, w.heap[b]? = some (.cells xs ty fz) ∧ (∀ o : Nat, ¬ (fz.1 ≤ o ∧ o < fz.2)) ∧ xs.size = c * sz2 ∧
        ∀ (i j : Nat) (v : V), i < n2 → (get2 i)[j]? = some v → R (mkK w M B s.hp s.ck) v (xs.getD (i * sz2 + j) undef) := g3
  generalize hx : B l2 = x at g3'
  cases x with
  | none => exact absurd (show n2 = 0 from g3') (by omega)
  | some bc =>
    obtain ⟨b, c⟩ := bc
    obtain ⟨g4, xs, ty, fz, g5, g6, g7, g8⟩ := g3'
    have hB : B' l2 = some (b, c) := by
      have q := q1.names l2 (hk.nm l2 _ hc) (.arr n2 sz2 get2) hc1
      have qq : ∃ n' get', s.hp l2 = some (.arr n' sz2 get') ∧ n' ≤ n2 ∧ (n' = n2 → B' l2 = B l2) := q
      obtain ⟨n', get', e1, e2, e3⟩ := qq
      have : n' = n2 := by
        rw [hc] at e1; cases e1; rfl
      exact (e3 this).trans hx
    obtain ⟨p1, p2⟩ := write_ok q2 (l := l2) hc1 (o' := .arr n2 sz2 fun i => if i = i0 then (get2 i).set j0 (.sl n sz get) else get2 i) hB ⟨n2, get2, rfl, Nat.le_refl _, fun _ => rfl⟩ (w' := w) ⟨rfl, rfl, rfl, rfl⟩ (fun _ _ => rfl)
      (fun k' hw hB' st => ⟨fun i hi => by
          show (if i = i0 then (get2 i).set j0 (.sl n sz get) else get2 i).length = sz2
          split
          · rw [List.length_set]; exact g1 i hi
          · exact g1 i hi, trivial, by
        show match k'.B l2 with
          | none => n2 = 0
          | some (b, c) => n2 ≤ c ∧ ∃ xs ty fz, k'.w.heap[b]? = some (.cells xs ty fz) ∧ (∀ o : Nat, ¬ (fz.1 ≤ o ∧ o < fz.2)) ∧ xs.size = c * sz2 ∧
            ∀ (i j : Nat) (v : V), i < n2 → (if i = i0 then (get2 i).set j0 (.sl n sz get) else get2 i)[j]? = some v → R k' v (xs.getD (i * sz2 + j) undef)
        rw [hB']
        refine ⟨g4, xs, ty, fz, by rw [hw]; exact g5, g6, g7, fun i j v hi hv => ?_⟩
        by_cases e : i = i0
        · subst e
          rw [if_pos rfl, List.getElem?_set] at hv
          by_cases e2 : j0 = j
          · subst e2
            have hlt := (List.getElem?_eq_some_iff.1 hj).1
            simp only [if_true, hlt, Option.some.injEq] at hv
            subst hv
            exact (q3 _ (g8 i j0 _ hi hj)).step st ho1
          · simp only [e2, if_false] at hv
            exact ((g8 i j v hi hv).step q1 ho).step st ho1
        · rw [if_neg e] at hv
          exact ((g8 i j v hi hv).step q1 ho).step st ho1⟩)
    exact ⟨M', B', hst.trans (q1.trans p1), p2, (ht.step q1 ho).step p1 ho1, (hm.step q1).step p1⟩
end Go.Fly
end
section
/- The office: levels of houses whose list stays the caller's own. -/
namespace Go.Fly.Off
open Go
def mapLevMC (k : FuncId) : Contract := fun rl args => ⟨∃ r l, args = [encRows 2 encHo l, .fn (.func k) [.cptr (encReg r)] []] ∧ l.length ≤ 1000000 ∧ ∀ h ∈ l, ChainOk r h.share,
  .msl rl 0 (decRows decHo (arg args 0)).length,
  some (.arr (decRows decHo (arg args 0)).length 1 fun i => [.int .i64 ((match arg args 1 with | .fn _ [.cptr c] _ => decReg c | _ => {}).level levelE (el (decRows decHo (arg args 0)) i))])⟩
attribute [go_sem] mapLevMC
/-- A register that is being changed, read out. -/
theorem frz_reg {H : Heap} {y : Lay} {r : Reg} (n : Nat) (hat : RegAt H y r) : frz (n + 3) H (.ptr y.box y.off) = .cptr (encReg r) := by
  have hn0 : H y.n0 = some (.arr r.types.length 3 fun i => encTy (el r.types i)) := hat.types
  have hn1 : H y.n1 = some (.arr r.houses.length 2 fun i => encHo (el r.houses i)) := hat.houses
  have hn2 : H y.n2 = some (.arr r.flights.length 5 fun i => encFl (el r.flights i)) := hat.flights
  have hn3 : H y.n3 = some (.arr r.maps.length 3 fun i => encMp (el r.maps i)) := hat.maps
  have hn4 : H y.n4 = some (.arr r.offers.length 4 fun i => encOf (el r.offers i)) := hat.offers
  have hn5 : H y.n5 = some (.arr r.complaints.length 6 fun i => encCo (el r.complaints i)) := hat.complaints
  rw [frz_ptr, hat.box]
  show V.cptr ((List.drop y.pre.length (y.pre ++ regCells y r)).map (frz (n + 2) H)) = _
  rw [List.drop_left]
  simp only [regCells, go_sem, ↓upXAbsY, ↓upXAbsZa, ↓upXOffC, hn0, hn1, hn2, hn3, hn4, hn5, Nat.zero_add]
  rfl
end Go.Fly.Off
end
