/- Part of a proof: an evaluator of the model's code by abstract values, and plain laws for it. No conditions. -/
import Derived.Test.YtfpoimbidpojnaaGreatDoorAM
set_option linter.unusedSimpArgs false
set_option linter.unusedVariables false
/- States whose slots are a function: what is written is not spread over a list. -/
namespace Go.Fly
open Go

def updF (f : Nat → V) (d : Nat) (v : V) : Nat → V := fun e => if e = d then v else f e
def mkT (n : Nat) (f : Nat → V) : List V := (List.range n).map f
def argF (args : List V) : Nat → V := fun e => args.getD e .top
theorem mkT_length {n : Nat} {f : Nat → V} : (mkT n f).length = n := by simp [mkT]
theorem mkT_get {n : Nat} {f : Nat → V} {e : Nat} : (mkT n f)[e]? = if n ≤ e then none else some (f e) := by
  unfold mkT
  rw [List.getElem?_map]
  by_cases h : n ≤ e
  · rw [if_pos h, List.getElem?_eq_none (by simpa using h)]; rfl
  · rw [if_neg h, List.getElem?_range (by omega)]; rfl
theorem mkT_set {n : Nat} {f : Nat → V} {d : Nat} {v : V} : (mkT n f).set d v = mkT n (updF f d v) := by
  apply List.ext_getElem?
  intro e
  rw [List.getElem?_set, mkT_get, mkT_get, mkT_length]
  unfold updF
  by_cases h : d = e
  · subst h
    by_cases h2 : n ≤ d
    · simp [h2]
    · simp [h2]
  · have : ¬ e = d := fun q => h q.symm
    simp [h, this]
theorem updF_app {f : Nat → V} {d e : Nat} {v : V} : updF f d v e = if e = d then v else f e := rfl
theorem argF_app {args : List V} {e : Nat} : argF args e = args.getD e .top := rfl
theorem enter_mkT {args : List V} {n : Nat} (h : args.length ≤ n) : St.enter args n = ⟨1, mkT n (argF args), fun _ => none⟩ := by
  unfold St.enter
  congr 1
  apply List.ext_getElem?
  intro e
  rw [mkT_get]
  unfold argF
  by_cases h1 : e < args.length
  · rw [List.getElem?_append_left h1, if_neg (by omega), List.getD_eq_getElem?_getD, List.getElem?_eq_getElem h1]; rfl
  · rw [List.getElem?_append_right (by omega)]
    by_cases h2 : n ≤ e
    · rw [if_pos h2, List.getElem?_eq_none (by simp; omega)]
    · rw [if_neg h2, List.getElem?_replicate, if_pos (by omega), List.getD_eq_getElem?_getD, List.getElem?_eq_none (by omega)]; rfl
/-- Slots that a loop writes, as intervals. -/
def inD : List (Nat × Nat) → Nat → Prop
  | [], _ => False
  | (a, b) :: l, e => (a ≤ e ∧ e ≤ b) ∨ inD l e
def topF : List (Nat × Nat) → (Nat → V) → Nat → V
  | [], f => f
  | (a, b) :: l, f => fun e => if a ≤ e then (if e ≤ b then .top else topF l f e) else topF l f e
def setF : List (Nat × V) → (Nat → V) → Nat → V
  | [], f => f
  | (d, v) :: l, f => setF l (updF f d v)
theorem topF_nil {f : Nat → V} : topF [] f = f := rfl
theorem topF_app {a b : Nat} {l : List (Nat × Nat)} {f : Nat → V} {e : Nat} : topF ((a, b) :: l) f e = if a ≤ e then (if e ≤ b then .top else topF l f e) else topF l f e := rfl
theorem setF_nil {f : Nat → V} : setF [] f = f := rfl
theorem setF_cons {d : Nat} {v : V} {l : List (Nat × V)} {f : Nat → V} : setF ((d, v) :: l) f = setF l (updF f d v) := rfl
theorem inD_nil {e : Nat} : inD [] e = False := propext ⟨id, id⟩
theorem inD_cons {a b : Nat} {l : List (Nat × Nat)} {e : Nat} : inD ((a, b) :: l) e = ((a ≤ e ∧ e ≤ b) ∨ inD l e) := propext ⟨id, id⟩
theorem topF_in {l : List (Nat × Nat)} {f : Nat → V} {e : Nat} (h : inD l e) : topF l f e = .top := by
  induction l with
  | nil => exact h.elim
  | cons x l ih =>
    obtain ⟨a, b⟩ := x
    rw [topF_app]
    rcases h with h | h
    · rw [if_pos h.1, if_pos h.2]
    · rw [ih h]; split <;> (try split) <;> rfl
theorem topF_out {l : List (Nat × Nat)} {f : Nat → V} {e : Nat} (h : ¬ inD l e) : topF l f e = f e := by
  induction l with
  | nil => rfl
  | cons x l ih =>
    obtain ⟨a, b⟩ := x
    rw [topF_app, ih fun q => h (.inr q)]
    split
    · split
      · rename_i h1 h2; exact (h (.inl ⟨h1, h2⟩)).elim
      · rfl
    · rfl
/-- The slots that a loop does not write are as they were. -/
def Off (n : Nat) (dead : List (Nat × Nat)) (g f : Nat → V) : Prop := ∀ e, e < n → ¬ inD dead e → g e = f e
theorem Off.upd {n : Nat} {dead : List (Nat × Nat)} {g f : Nat → V} {d : Nat} {v : V} (hd : inD dead d) : Off n dead (updF g d v) f = Off n dead g f := by
  apply propext
  constructor
  · intro h e hn he
    rw [← h e hn he, updF_app, if_neg (by rintro rfl; exact he hd)]
  · intro h e hn he
    rw [updF_app, if_neg (by rintro rfl; exact he hd)]; exact h e hn he
theorem Off.top {n : Nat} {dead : List (Nat × Nat)} {f : Nat → V} : Off n dead (topF dead f) f = True := eq_true fun e _ he => topF_out he
theorem Off.refl {n : Nat} {dead : List (Nat × Nat)} {f : Nat → V} : Off n dead f f = True := eq_true fun e _ he => rfl
def eqL (g : Nat → V) : List (Nat × V) → Prop
  | [] => True
  | (d, v) :: l => g d = v ∧ eqL g l
theorem eqL_nil {g : Nat → V} : eqL g [] = True := rfl
theorem eqL_cons {g : Nat → V} {d : Nat} {v : V} {l : List (Nat × V)} : eqL g ((d, v) :: l) = (g d = v ∧ eqL g l) := rfl
/-- What a slot of the beginning of a round holds: what the list says last, or nothing that is known, or what it held. -/
theorem setF_app {l : List (Nat × V)} {g : Nat → V} {dead : List (Nat × Nat)} (hg : eqL g l) : ∀ {f : Nat → V} {e : Nat}, (f e = .top ∨ f e = g e) → setF l f e = .top ∨ setF l f e = g e := by
  induction l with
  | nil => intro f e h; exact h
  | cons x l ih =>
    intro f e h
    obtain ⟨d, v⟩ := x
    rw [setF_cons]
    refine ih hg.2 ?_
    rw [updF_app]
    by_cases q : e = d
    · subst q; rw [if_pos rfl]; exact .inr hg.1.symm
    · rw [if_neg q]; exact h
theorem tmLe_mkT {n : Nat} {f g : Nat → V} (h : ∀ e, e < n → f e = .top ∨ f e = g e) : tmLe (mkT n g) (mkT n f) := by
  have key : ∀ (l : List Nat), (∀ e ∈ l, f e = .top ∨ f e = g e) → tmLe (l.map g) (l.map f) := by
    intro l
    induction l with
    | nil => intro _; trivial
    | cons e l ih =>
      intro h
      refine ⟨?_, ih fun e he => h e (by simp [he])⟩
      rcases h e (by simp) with q | q
      · exact .inl q
      · exact .inr q.symm
  exact key _ fun e he => h e (by simpa using he)
/-- What is asked of the slots behind a round. -/
def LeT (tm : List V) (n : Nat) (live : List (Nat × V)) (dead : List (Nat × Nat)) (f : Nat → V) : Prop := tm.length = n ∧ eqL (fun e => tm.getD e .top) live ∧ Off n dead (fun e => tm.getD e .top) f
theorem LeT_mk {n : Nat} {g : Nat → V} {live : List (Nat × V)} {dead : List (Nat × Nat)} {f : Nat → V} : LeT (mkT n g) n live dead f = (eqL (fun e => (mkT n g).getD e .top) live ∧ Off n dead g f) := by
  unfold LeT Off
  rw [mkT_length]
  apply propext
  have hg : ∀ e, e < n → (mkT n g).getD e .top = g e := fun e he => by
    rw [List.getD_eq_getElem?_getD, mkT_get, if_neg (by omega)]; rfl
  constructor
  · rintro ⟨_, h1, h2⟩
    exact ⟨h1, fun e he hn => by rw [← hg e he]; exact h2 e he hn⟩
  · rintro ⟨h1, h2⟩
    exact ⟨rfl, h1, fun e he hn => by show (mkT n g).getD e .top = _; rw [hg e he]; exact h2 e he hn⟩
theorem LeT.le {tm : List V} {n : Nat} {live : List (Nat × V)} {dead : List (Nat × Nat)} {f : Nat → V} (h : LeT tm n live dead f) : tmLe tm (mkT n (setF live (topF dead f))) := by
  obtain ⟨h0, h1, h2⟩ := h
  have e1 : tm = mkT n (fun e => tm.getD e .top) := by
    apply List.ext_getElem?
    intro e
    rw [mkT_get]
    by_cases q : n ≤ e
    · rw [if_pos q, List.getElem?_eq_none (by omega)]
    · rw [if_neg q, List.getD_eq_getElem?_getD, List.getElem?_eq_getElem (by omega)]; rfl
  generalize hgg : (fun e => tm.getD e .top) = g at *
  rw [e1]
  refine tmLe_mkT fun e he => setF_app (dead := dead) h1 ?_
  by_cases q : inD dead e
  · exact .inl (topF_in q)
  · rw [topF_out q]; exact .inr (h2 e he q).symm
theorem LeT.start {n : Nat} {f : Nat → V} {live : List (Nat × V)} {dead : List (Nat × Nat)} (h : eqL f live) : tmLe (mkT n f) (mkT n (setF live (topF dead f))) := by
  refine tmLe_mkT fun e he => setF_app (dead := dead) h ?_
  by_cases q : inD dead e
  · exact .inl (topF_in q)
  · rw [topF_out q]; exact .inr rfl

theorem RestT.loopF {X : Cx} {D : Tabs} {c : Code} {ck n : Nat} {f : Nat → V} {hp : Heap} {Q : Exit → St → Prop} {β : Type} (dead : List (Nat × Nat)) (live : β → List (Nat × V)) (hpf : β → Heap) (Inv : β → Prop) (μ : β → Nat) (b0 : β)
    (hI : Inv b0) (h0 : eqL f (live b0)) (hh : HpLe hp (hpf b0))
    (round : ∀ ck' b, ck ≤ ck' → Inv b → exC X D c ⟨ck', mkT n (setF (live b) (topF dead f)), hpf b⟩
      (seqQ (fun s' => ck ≤ s'.ck ∧ ∃ b', Inv b' ∧ μ b' < μ b ∧ LeT s'.tm n (live b') dead f ∧ HpLe s'.hp (hpf b')) Q)) : RestT X D (.loop c) ⟨ck, mkT n f, hp⟩ Q := by
  intro hd hX hm
  refine T.loop (α := { x : Nat × β // ck ≤ x.1 ∧ Inv x.2 }) (fun x => ⟨x.1.1, mkT n (setF (live x.1.2) (topF dead f)), hpf x.1.2⟩) (fun x => μ x.1.2) ⟨(ck + 1, b0), by simp, hI⟩ (Ents.go (LeT.start h0) hh) ?_
  rintro ⟨⟨ck', b⟩, h1, h2⟩
  refine T.mono (exC_ok hX hm c _ _ hd (round ck' b h1 h2)) fun e s' q => ?_
  cases e with
  | normal =>
    obtain ⟨q1, b', q2, q3, q4, q5⟩ := q
    obtain ⟨c1, t1, p1⟩ := s'
    exact ⟨⟨(c1 + 1, b'), by simp at q1 ⊢; omega, q2⟩, Ents.go q4.le q5, q3⟩
  | _ => exact q

theorem updF_same {f : Nat → V} {d : Nat} {v : V} : updF f d v d = v := by rw [updF_app, if_pos rfl]
theorem updF_ne {f : Nat → V} {d e : Nat} {v : V} (h : ¬ e = d) : updF f d v e = f e := by rw [updF_app, if_neg h]
theorem mkT_getD {n : Nat} {f : Nat → V} {e : Nat} (h : ¬ n ≤ e) : (mkT n f).getD e .top = f e := by rw [List.getD_eq_getElem?_getD, mkT_get, if_neg h]; rfl
theorem mkT_get1 {n : Nat} {f : Nat → V} {e : Nat} (h : ¬ n ≤ e) : (mkT n f)[e]? = some (f e) := by rw [mkT_get, if_neg h]
theorem topF_hit {a b : Nat} {l : List (Nat × Nat)} {f : Nat → V} {e : Nat} (h1 : a ≤ e) (h2 : e ≤ b) : topF ((a, b) :: l) f e = .top := by rw [topF_app, if_pos h1, if_pos h2]
theorem topF_lo {a b : Nat} {l : List (Nat × Nat)} {f : Nat → V} {e : Nat} (h1 : ¬ a ≤ e) : topF ((a, b) :: l) f e = topF l f e := by rw [topF_app, if_neg h1]
theorem topF_hi {a b : Nat} {l : List (Nat × Nat)} {f : Nat → V} {e : Nat} (h2 : ¬ e ≤ b) : topF ((a, b) :: l) f e = topF l f e := by rw [topF_app, if_neg h2]; split <;> rfl
attribute [go_sem] mkT_get1 mkT_set updF_same updF_ne argF_app topF_nil topF_hit topF_lo topF_hi setF_nil setF_cons inD_nil inD_cons Off.upd Off.top Off.refl eqL_nil eqL_cons LeT_mk
end Go.Fly
