/- Part of a proof: an evaluator of the model's code by abstract values, and plain laws for it. No conditions. -/
import Derived.Test.YtfpoimbidpojnaaGreatDoorAV
set_option linter.unusedSimpArgs false
set_option linter.unusedVariables false
/- Walls that reflect: contracts of the functions over functions. -/
namespace Go.Fly
open Go
theorem HpLe.more {hp hp' : Heap} {l : Loc} {a : AObj} (h : HpLe hp hp') (h' : hp' l = Option.none) : HpLe (updH hp l a) hp' := fun m o q => by
  have hm : m ≠ l := by rintro rfl; rw [h'] at q; cases q
  obtain ⟨o', e, f⟩ := h m o q
  exact ⟨o', by rw [updH_ne hm]; exact e, f⟩
def partC : Contract := fun _ args =>
  match args with
  | [.int .i64 v, .cptr [.int .i64 x, .int .i64 y, .int .i64 z, .int .i64 d]] => ⟨(-1000000000000 ≤ v ∧ v ≤ 1000000000000) ∧ 0 < d ∧ d ≤ 1000000000000, .agg [.int .i64 (v.tdiv (lowG v d)), .int .i64 (d.tdiv (lowG v d))], none⟩
  | _ => ⟨False, .top, none⟩
def mirItC (g1 : FuncId) : Contract := fun _ args =>
  match args with
  | [.sl n sz get, .agg [.int .i64 sx, .int .i64 sy, .int .i64 sz'], .agg [.int .i64 rx, .int .i64 ry, .int .i64 rz]] =>
    ⟨sz = 7 ∧ IsWalls n get, .fn (.func g1) [] [.cptr [.sl n 7 get], .cptr [.int .i64 sx, .int .i64 sy, .int .i64 sz'], .cptr [.int .i64 rx, .int .i64 ry, .int .i64 rz]], none⟩
  | _ => ⟨False, .top, none⟩
noncomputable def appSeqC (g1 : FuncId) : Contract := fun _ args =>
  match args with
  | [.nils, .fn (.func g) [] [.cptr [.sl n sz get], .cptr [.int .i64 sx, .int .i64 sy, .int .i64 sz'], .cptr [.int .i64 rx, .int .i64 ry, .int .i64 rz]]] =>
    ⟨g = g1 ∧ sz = 7 ∧ IsWalls n get ∧ WallsOk n get ∧ SpotOk sx sy sz' ∧ SpotOk rx ry rz,
      .sl (mirL n get sx sy sz' rx ry rz n).length 11 (fun j => mirR get sx sy sz' rx ry rz ((mirL n get sx sy sz' rx ry rz n).getD j 0)), none⟩
  | _ => ⟨False, .top, none⟩
noncomputable def collectC (g1 : FuncId) : Contract := fun _ args =>
  match args with
  | [.fn (.func g) [] [.cptr [.sl n sz get], .cptr [.int .i64 sx, .int .i64 sy, .int .i64 sz'], .cptr [.int .i64 rx, .int .i64 ry, .int .i64 rz]]] =>
    ⟨g = g1 ∧ sz = 7 ∧ IsWalls n get ∧ WallsOk n get ∧ SpotOk sx sy sz' ∧ SpotOk rx ry rz,
      .sl (mirL n get sx sy sz' rx ry rz n).length 11 (fun j => mirR get sx sy sz' rx ry rz ((mirL n get sx sy sz' rx ry rz n).getD j 0)), none⟩
  | _ => ⟨False, .top, none⟩
/-- The ways through `reflected` that reach its loop. -/
def wBa (get : Nat → List V) (i : Nat) (sx sy rx ry : Int) : Int := besideE (wIx get i sx sy) (wIy get i sx sy) rx ry 1 (cell get i 1) (cell get i 2)
def wBb (get : Nat → List V) (i : Nat) (sx sy rx ry : Int) : Int := besideE (wIx get i sx sy) (wIy get i sx sy) rx ry 1 (cell get i 3) (cell get i 4)
def goesP (get : Nat → List V) (i : Nat) (sx sy sz rx ry rz : Int) : Prop := sideP (wsd get i sx sy) (wsd get i rx ry) ∧ atZ get i sx sy sz rx ry rz < cell get i 5 * atD get i sx sy rx ry
def loopP (t : Nat) (get : Nat → List V) (i : Nat) (sx sy sz rx ry rz : Int) : Prop :=
  goesP get i sx sy sz rx ry rz ∧ ((t = 0 ∧ 0 < wBa get i sx sy rx ry ∧ ¬ 0 < wBb get i sx sy rx ry) ∨ (t = 1 ∧ wBa get i sx sy rx ry < 0 ∧ ¬ wBb get i sx sy rx ry < 0) ∨ (t = 2 ∧ wBa get i sx sy rx ry = 0))
def noLoopP (get : Nat → List V) (i : Nat) (sx sy sz rx ry rz : Int) : Prop := ¬ (goesP get i sx sy sz rx ry rz ∧ wBy get i sx sy rx ry = false)
noncomputable def reflCp (p : (Nat → List V) → Nat → Int → Int → Int → Int → Int → Int → Prop) : Contract := fun _ args =>
  match args with
  | [.sl n sz get, .int .i64 i, .agg [.int .i64 sx, .int .i64 sy, .int .i64 sz'], .agg [.int .i64 rx, .int .i64 ry, .int .i64 rz]] =>
    ⟨(sz = 7 ∧ IsWalls n get ∧ WallsOk n get ∧ (0 ≤ i ∧ i < n) ∧ SpotOk sx sy sz' ∧ SpotOk rx ry rz ∧ wEven get i.toNat) ∧ p get i.toNat sx sy sz' rx ry rz,
      .tup [.agg (if reflB n get i.toNat sx sy sz' rx ry rz = true then mirR get sx sy sz' rx ry rz i.toNat else zero12), .bool (reflB n get i.toNat sx sy sz' rx ry rz)], none⟩
  | _ => ⟨False, .top, none⟩
theorem Holds.split {P : Program} {G : Nat → V} {f : FuncId} {C C1 C2 : Contract} (h1 : Holds P G f C1) (h2 : Holds P G f C2)
    (h : ∀ rl args, (C rl args).pre → ((C1 rl args).pre ∧ (C1 rl args).obj = (C rl args).obj ∧ (C1 rl args).val = (C rl args).val) ∨ ((C2 rl args).pre ∧ (C2 rl args).obj = (C rl args).obj ∧ (C2 rl args).val = (C rl args).val)) : Holds P G f C := fun rl args w M vs a b c d hp => by
  rcases h rl args hp with ⟨p, q, r⟩ | ⟨p, q, r⟩
  · have := h1 rl args w M vs a b c d p
    rw [q, r] at this
    exact this
  · have := h2 rl args w M vs a b c d p
    rw [q, r] at this
    exact this
theorem same_split (a b : Int) : sameS a b = false → (0 < a ∧ ¬ 0 < b) ∨ (a < 0 ∧ ¬ b < 0) ∨ a = 0 := by
  unfold sameS
  intro h
  simp at h
  omega
theorem refl_join {P : Program} {G : Nat → V} {f : FuncId} (h0 : Holds P G f (reflCp noLoopP)) (h1 : Holds P G f (reflCp (loopP 0))) (h2 : Holds P G f (reflCp (loopP 1))) (h3 : Holds P G f (reflCp (loopP 2))) : Holds P G f reflC := by
  have key : ∀ {p q r : (Nat → List V) → Nat → Int → Int → Int → Int → Int → Int → Prop}, (∀ g i a b c d e f, r g i a b c d e f → p g i a b c d e f ∨ q g i a b c d e f) → Holds P G f (reflCp p) → Holds P G f (reflCp q) → Holds P G f (reflCp r) := fun {p q r} hpq hp hq => by
    refine hp.split hq fun rl args hpre => ?_
    unfold reflCp at hpre ⊢
    split at hpre
    · rcases hpq _ _ _ _ _ _ _ _ hpre.2 with h | h
      · exact .inl ⟨⟨hpre.1, h⟩, rfl, rfl⟩
      · exact .inr ⟨⟨hpre.1, h⟩, rfl, rfl⟩
    · exact hpre.elim
  have a1 := key (r := fun g i a b c d e f => loopP 1 g i a b c d e f ∨ loopP 2 g i a b c d e f) (fun _ _ _ _ _ _ _ _ h => h) h2 h3
  have a2 := key (r := fun g i a b c d e f => loopP 0 g i a b c d e f ∨ loopP 1 g i a b c d e f ∨ loopP 2 g i a b c d e f) (fun _ _ _ _ _ _ _ _ h => h) h1 a1
  have a3 := key (r := fun _ _ _ _ _ _ _ _ => True) (fun g i a b c d e f _ => by
    by_cases h : goesP g i a b c d e f ∧ wBy g i a b d e = false
    · refine .inr ?_
      have := same_split _ _ (show sameS (wBa g i a b d e) (wBb g i a b d e) = false from h.2)
      rcases this with q | q | q
      · exact .inl ⟨h.1, .inl ⟨rfl, q⟩⟩
      · exact .inr (.inl ⟨h.1, .inr (.inl ⟨rfl, q⟩)⟩)
      · exact .inr (.inr ⟨h.1, .inr (.inr ⟨rfl, q⟩)⟩)
    · exact .inl h) h0 a2
  refine a3.split a3 fun rl args hpre => .inl ?_
  unfold reflC at hpre
  unfold reflCp reflC
  split at hpre
  · exact ⟨⟨hpre, trivial⟩, rfl, rfl⟩
  · exact hpre.elim
attribute [go_sem] partC mirItC appSeqC collectC
end Go.Fly
