/- Part of a proof: an evaluator of the model's code by abstract values, and plain laws for it. No conditions. -/
import Derived.Test.YtfpoimbidpojnaaGreatDoorAI
set_option linter.unusedSimpArgs false
set_option linter.unusedVariables false
/- Laws for loops over functions. -/
namespace Go.Fly
open Go

theorem frzRow_sl {f : V → V} {n sz : Nat} {get : Nat → List V} (h : Pu (.sl n sz get)) {i : Nat} (hi : i < n) : frzRow f (get i) = get i := frzRow_pu fun v hv => by
  cases h with
  | sl _ _ _ h =>
    obtain ⟨j, hj⟩ := List.mem_iff_getElem?.1 hv
    exact h i j v hi hj
theorem inQ_normal0 {X : Cx} {Kn : V → St → Prop} {s : St} : inQ X [] Kn .normal s = Kn (.tup []) s := by
  rw [inQ]
  simp [resultV, resL]
theorem inQ_ret0 {X : Cx} {Kn : V → St → Prop} {s : St} : inQ X [] Kn .ret s = Kn (.tup []) s := by
  rw [inQ]
  simp [resultV, resL]
theorem roundQ_normal {s s2 : St} {dst : Option Tmp} {L : Nat} {r : Loop} {Kn : St → Prop} : roundQ s dst L r Kn .normal s2 =
    (s2.hp (0, L) = some (.raw (.loop { r with state := .busy })) ∧ Kn ⟨s2.ck, putTm s.tm dst (.bool true), updH s2.hp (0, L) (.raw (.loop { r with state := .ready, pending := none }))⟩) := by
  unfold roundQ; simp [jumpOf]
theorem roundQ_exit {s s2 : St} {dst : Option Tmp} {L : Nat} {r : Loop} {Kn : St → Prop} {i : Nat} : roundQ s dst L r Kn (.exit i) s2 =
    (s2.hp (0, L) = some (.raw (.loop { r with state := .busy })) ∧ Kn ⟨s2.ck, putTm s.tm dst (.bool false), updH s2.hp (0, L) (.raw (.loop { r with state := .done, pending := some (.exit i) }))⟩) := by
  unfold roundQ; simp [jumpOf]
theorem roundQ_ret {s s2 : St} {dst : Option Tmp} {L : Nat} {r : Loop} {Kn : St → Prop} : roundQ s dst L r Kn .ret s2 =
    (s2.hp (0, L) = some (.raw (.loop { r with state := .busy })) ∧ Kn ⟨s2.ck, putTm s.tm dst (.bool false), updH s2.hp (0, L) (.raw (.loop { r with state := .done, pending := some .ret }))⟩) := by
  unfold roundQ; simp [jumpOf]
/-- The end of a loop over a function. -/
def pendP (p : Option Code) (A : Prop) (B : Code → Prop) : Prop := match p with
  | none => A
  | some j => B j
theorem pendP_none {A : Prop} {B : Code → Prop} : pendP none A B = A := by rw [pendP]
theorem pendP_some {j : Code} {A : Prop} {B : Code → Prop} : pendP (some j) A B = B j := by rw [pendP]
@[congr] theorem pendP_congr {p p' : Option Code} {A : Prop} {B : Code → Prop} (h : p = p') : pendP p A B = pendP p' A B := by subst h; rfl
def overP (o : Option AObj) (A : Prop) (B : Code → Prop) : Prop := match o with
  | some (.raw (.loop r)) => r.state ≠ .busy ∧ pendP r.pending A B
  | _ => False
theorem overP_raw {r : Loop} {A : Prop} {B : Code → Prop} : overP (some (.raw (.loop r))) A B = (r.state ≠ .busy ∧ pendP r.pending A B) := by rw [overP]
@[congr] theorem overP_congr {p p' : Option AObj} {A : Prop} {B : Code → Prop} (h : p = p') : overP p A B = overP p' A B := by subst h; rfl
theorem drawsOk_exit {D : Tabs} {i : Nat} : drawsOk D (.exit i) = true := by simp [drawsOk]
theorem drawsOk_ret {D : Tabs} : drawsOk D .ret = true := by simp [drawsOk]
theorem dropL_app {L : Nat} {hp : Heap} {l : Loc} : dropL L hp l = if l = (0, L) then none else hp l := rfl

theorem RestT.rangeFunc2 {X : Cx} (hXr : X.r = none) {D : Tabs} {g : Operand} {ps : Array Tmp} {assign body : Code} {s : St} {Q : Exit → St → Prop} {f : FuncId} {cap : List V} {fn : Func} {c : Code}
    (hg : ev X s g = .fn (.func f) [] cap) (hen : Enters X.P f) (hf : X.P.funcs[f]? = some fn) (hb : fn.body = some c) (hfree : ∀ L, s.hp (0, L) = none) {Dc : Tabs} (hdc : drawsOk Dc c = true)
    (h : ∀ (L : Nat) (r : Loop) (k1 : K), r.params = ps → r.assign = assign → r.body = body → r.state = .ready → r.pending = none → TmOk k1 s.tm r.tmps → X.P.follows .mixedOrders = true → drawsOk D assign = true → drawsOk D body = true →
      exC ⟨X.P, X.Γ, X.G, none, k1⟩ Dc c ⟨s.ck + 1, (.fn (.yield L) [] [] :: cap) ++ List.replicate (fn.ntmps - (V.fn (.yield L) [] [] :: cap).length) .top, updH s.hp (0, L) (.raw (.loop r))⟩
        (inQ ⟨X.P, X.Γ, X.G, none, k1⟩ fn.results.toList fun _ s' => overP (s'.hp (0, L)) (Q .normal ⟨s'.ck + 1, s.tm, dropL L s'.hp⟩)
          (fun j => ∀ k0', exC ⟨X.P, X.Γ, X.G, none, k0'⟩ D j ⟨s'.ck + 1, s.tm, dropL L s'.hp⟩ Q ∧ drawsOk D j = true))) : RestT X D (.rangeFunc g ps assign body) s Q := by
  refine RestT.rangeFunc hXr hg hen hf hb hfree hdc fun L r k1 e1 e2 e3 e4 e5 e6 hm h1 h2 => ?_
  refine (congrArg (exC _ _ _ _) ?_).mp (h L r k1 e1 e2 e3 e4 e5 e6 hm h1 h2)
  congr 1
  funext v s'
  apply propext
  constructor
  · intro q
    unfold overP at q
    split at q
    · rename_i o r' ho
      refine ⟨r', ho, q.1, ?_⟩
      have q2 := q.2
      unfold pendP at q2
      exact q2
    · exact q.elim
  · rintro ⟨r', ho, h1, h2⟩
    rw [ho, overP_raw]
    refine ⟨h1, ?_⟩
    unfold pendP
    exact h2
attribute [go_sem] reduceCtorEq pendP_none pendP_some overP_raw drawsOk_exit drawsOk_ret dropL_app
theorem loop_eta {r : Loop} {ps : Array Tmp} {a b : Code} (e1 : r.params = ps) (e2 : r.assign = a) (e3 : r.body = b) (e4 : r.state = .ready) (e5 : r.pending = none) :
    ({ state := .ready, pending := none, fn := r.fn, tmps := r.tmps, params := ps, assign := a, body := b, defers := r.defers } : Loop) = r := by
  cases r; simp_all
theorem idxF_eq {p : Nat → Bool} {i n : Nat} (hi : i < n) (h1 : p i = true) (h2 : ∀ j, j < i → p j = false) : idxF p 0 n = i := by
  have key : ∀ {k s : Nat}, s ≤ i → i < s + k → idxF p s k = i := by
    intro k
    induction k with
    | zero => intro s a b; omega
    | succ k ih =>
      intro s a b
      unfold idxF
      by_cases e : s = i
      · subst e; rw [if_pos h1]
      · rw [if_neg (by rw [h2 s (by omega)]; simp)]
        exact ih (by omega) (by omega)
  exact key (Nat.zero_le _) (by omega)
theorem atE_eq {n : Nat} {get : Nat → List V} {h : Int} {i : Nat} (hi : i < n) (h1 : h < topE n get i) (h2 : ∀ j, j < i → ¬ h < topE n get j) : atE n get h = i :=
  idxF_eq hi (by simpa using h1) fun j hj => by simpa using h2 j hj
/-- The bottom of the next layer, as it is reckoned. -/
def botT (n : Nat) (get : Nat → List V) (i : Nat) : Int := if i < n then botE get i else 1099511627776
theorem botT_lt {n : Nat} {get : Nat → List V} {i : Nat} (h : i < n) : botT n get i = botE get i := by unfold botT; rw [if_pos h]
theorem botT_next {n : Nat} {get : Nat → List V} {i : Nat} (h : i < n) : botT n get (i + 1) = topE n get i := by
  unfold botT topE
  by_cases e : i + 1 < n
  · rw [if_pos e, if_neg (by omega)]; rfl
  · rw [if_neg e, if_pos (by omega)]
theorem cast1 : ((1 : Nat) : Int) = 1 := rfl
theorem cast2 : ((2 : Nat) : Int) = 2 := rfl
theorem cast4 : ((4 : Nat) : Int) = 4 := rfl
theorem cast8 : ((8 : Nat) : Int) = 8 := rfl
attribute [go_sem] cast1 cast2 cast4 cast8 inQ_normal0 inQ_ret0 roundQ_normal roundQ_exit roundQ_ret setTs
end Go.Fly
