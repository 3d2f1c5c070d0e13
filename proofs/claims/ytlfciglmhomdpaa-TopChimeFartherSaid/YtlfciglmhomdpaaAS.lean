/- Part of a proof: an evaluator of the model's code by abstract values, and plain laws for it. No conditions. -/
import Derived.Test.YtlfciglmhomdpaaAM
import Derived.Test.YtlfciglmhomdpaaAD
set_option linter.unusedSimpArgs false
set_option linter.unusedVariables false
/- Calls that are walked where they stand; loops that keep what depends on the names; all that the call owns read out. -/
namespace Go.Fly
open Go

/-- A call whose body is walked with what the caller owns. -/
theorem CallT.inline {X : Cx} (hX : X.Ok) {f : FuncId} {fn : Func} {c : Code} (hf : X.P.funcs[f]? = some fn) (hb : fn.body = some c) (hm : X.P.follows .mixedOrders = true) {D : Tabs} (hd : drawsOk D c = true)
    (Γ : FuncId → Option Contract) (hΓ : ∀ g C, Γ g = some C → Holds X.P X.G g C) {hp : Heap} {ck : Nat} {args : List V} {Kn : V → Heap → Nat → Prop}
    (h : ∀ k1, exC ⟨X.P, Γ, X.G, none, k1⟩ D c ⟨ck + 1, args ++ List.replicate (fn.ntmps - args.length) .top, hp⟩ (inQ ⟨X.P, Γ, X.G, none, k1⟩ fn.results.toList fun v s' => Kn v s'.hp s'.ck)) : CallT X hp ck f args Kn := by
  intro w M B vs hst hho hargs
  have hG0 : ∀ g, R (mkK w M B hp ck) (X.G g) (.pointer (some ⟨g, 0, none⟩)) := fun g => (hX.G0 g).step hst hX.own
  have hX1 : (⟨X.P, Γ, X.G, none, mkK w M B hp ck⟩ : Cx).Ok := ⟨hΓ, hX.G, hG0, fun b hb => (hho.own b hb).1⟩
  refine (calls_of_T hf hb hΓ hX.G hho hG0 hargs (Kn := fun v s' => Kn v s'.hp s'.ck) (exC_ok hX1 hm c _ _ hd (h (mkK w M B hp ck)))).mono fun e w' ⟨rv, v, s', M', B', h1, h2, h3, h4, h5⟩ => ?_
  exact ⟨rv, v, s'.hp, s'.ck, M', B', h1, h2, h3, h4, h5⟩

def finK (v : Option V) (s : St) (Kn : V → St → Prop) : Prop := match v with
  | some v => Kn v s
  | none => False
theorem finK_some {v : V} {s : St} {Kn : V → St → Prop} : finK (some v) s Kn = Kn v s := by rw [finK]
@[congr] theorem finK_congr {v v' : Option V} {s : St} {Kn : V → St → Prop} (h : v = v') : finK v s Kn = finK v' s Kn := by subst h; rfl
theorem inQ_one {X : Cx} {r : ResultVar} {Kn : V → St → Prop} {s : St} {e : Exit} (he : e = .normal ∨ e = .ret) : inQ X [r] Kn e s = finK (res1 X s r) s Kn := by
  have key : (∃ v, resultV X s [r] = some v ∧ Kn v s) = finK (res1 X s r) s Kn := by
    unfold resultV resL finK
    cases h : res1 X s r with
    | none => simp [resL]
    | some v => simp [resL]
  rcases he with rfl | rfl <;> rw [inQ] <;> exact key
theorem inQ_normal1 {X : Cx} {r : ResultVar} {Kn : V → St → Prop} {s : St} : inQ X [r] Kn .normal s = finK (res1 X s r) s Kn := inQ_one (.inl rfl)
theorem inQ_ret1 {X : Cx} {r : ResultVar} {Kn : V → St → Prop} {s : St} : inQ X [r] Kn .ret s = finK (res1 X s r) s Kn := inQ_one (.inr rfl)
attribute [go_sem] finK_some inQ_normal1 inQ_ret1

theorem T.post {X : Cx} {c : Code} {s : St} {Q : Exit → St → Prop} (h : T X c s (fun e s' => ∃ s2, Ents X.k0 s' s2 ∧ Q e s2)) : T X c s Q :=
  fun a w hr => wpIn_mono (h a w hr) fun e a' w' ⟨s', ⟨s2, h1, h2⟩, h3⟩ => ⟨s2, h2, h1 a' w' h3⟩

/-- A loop by what its rounds keep, which may depend on the names that are taken; behind its exits a state that follows from theirs. -/
theorem RestT.loopK {X : Cx} {D : Tabs} {c : Code} {ck : Nat} {tm : List V} {hp : Heap} {Q : Exit → St → Prop} {β : Type} (dead : List Nat) (live : β → List (Nat × V)) (hpf : β → Heap) (Inv : Nat → β → Prop) (μ : β → Nat) (b0 : β)
    (hI : Inv (ck + 1) b0) (h0 : tmLe tm (sets (live b0) (tops dead tm))) (hh : HpLe hp (hpf b0))
    (round : ∀ ck' b, ck < ck' → Inv ck' b → exC X D c ⟨ck', sets (live b) (tops dead tm), hpf b⟩
      (seqQ (fun s' => ck ≤ s'.ck ∧ ∃ b', Inv (s'.ck + 1) b' ∧ μ b' < μ b ∧ tmLe s'.tm (sets (live b') (tops dead tm)) ∧ HpLe s'.hp (hpf b')) fun e s' => ∃ s2, Ents X.k0 s' s2 ∧ Q e s2)) : RestT X D (.loop c) ⟨ck, tm, hp⟩ Q := by
  intro hd hX hm
  refine T.post (T.loop (α := { x : Nat × β // ck < x.1 ∧ Inv x.1 x.2 }) (fun x => ⟨x.1.1, sets (live x.1.2) (tops dead tm), hpf x.1.2⟩) (fun x => μ x.1.2) ⟨(ck + 1, b0), by simp, hI⟩ (Ents.go h0 hh) ?_)
  rintro ⟨⟨ck', b⟩, h1, h2⟩
  refine T.mono (exC_ok hX hm c _ _ hd (round ck' b h1 h2)) fun e s' q => ?_
  cases e with
  | normal =>
    obtain ⟨q1, b', q2, q3, q4, q5⟩ := q
    obtain ⟨c1, t1, p1⟩ := s'
    exact ⟨⟨(c1 + 1, b'), by simp at q1 ⊢; omega, q2⟩, Ents.go q4 q5, q3⟩
  | _ => exact q

/-- Slot by slot the same, nothing, or what it holds read out. -/
def frzLe (hp : Heap) : List V → List V → Prop
  | [], [] => True
  | v :: l, v' :: l' => (v' = .top ∨ v' = v ∨ VEnt (frz 5 hp v) v') ∧ frzLe hp l l'
  | _, _ => False
theorem frzLe.spec {hp : Heap} : ∀ {l l' : List V}, frzLe hp l l' → l'.length = l.length ∧ ∀ (d : Nat) (v' : V), l'[d]? = some v' → ∃ v, l[d]? = some v ∧ (v' = .top ∨ v' = v ∨ VEnt (frz 5 hp v) v')
  | [], [], _ => ⟨rfl, fun d v h => by simp at h⟩
  | v :: l, v' :: l', h => by
    obtain ⟨h1, h2⟩ := frzLe.spec h.2
    refine ⟨by simp [h1], fun d u hu => ?_⟩
    cases d with
    | zero =>
      simp only [List.getElem?_cons_zero, Option.some.injEq] at hu ⊢
      subst hu
      exact ⟨v, rfl, h.1⟩
    | succ d => simpa using h2 d u (by simpa using hu)
  | [], _ :: _, h => h.elim
  | _ :: _, [], h => h.elim

/-- All that the call owns is let go; slots hold what could be read there. -/
theorem Ents.freeze {k0 : K} {ck : Nat} {tm tm' : List V} {hp : Heap} (h : frzLe hp tm tm') : Ents k0 ⟨ck, tm, hp⟩ ⟨ck + 1, tm', fun _ => none⟩ := by
  intro a w ⟨M, B, hst, hk, ht, hm⟩
  have ho : ∀ b, (mkK w M B hp ck).owned b → (mkK w M B hp ck).M b := fun b hb => (hk.own b hb).1
  let k' : K := mkK w (fun b => M b ∧ ¬ (mkK w M B hp ck).owned b) (fun _ => none) (fun _ => none) (ck + 1)
  have st : Step (mkK w M B hp ck) k' :=
    ⟨rfl, rfl, rfl, Nat.le_refl _, fun _ _ _ => rfl, fun b ⟨l, o, c, q, _⟩ => (by cases q), fun b _ q => q.1, fun b _ q q2 => ⟨q2, q⟩, fun l q => .inl (by rcases q with q | q <;> omega), fun l _ o' q => (by cases q)⟩
  refine ⟨_, _, hst.trans st, ⟨fun b q => hk.lt b q.1, fun b ⟨l, o, c, q, _⟩ => (by cases q), fun l o q => (by cases q), fun l l' b c c' o o' q => (by cases q), fun l o q => (by cases q)⟩, ⟨?_, fun d v' hv' => ?_⟩, hm.step st⟩
  · exact h.spec.1.trans ht.1
  · obtain ⟨v, hv, q⟩ := h.spec.2 d v' hv'
    have hR := ht.2 d v hv
    rcases q with rfl | rfl | q
    · exact .top _
    · exact hR.step st ho
    · exact q k' _ (frz_R (k' := k') hk (fun b hb hc => ⟨hb, rfl, fun q => by
        rcases hc with hc | hc
        · exact hc q.1
        · exact q.2 hc⟩) 5 hR).2
end Go.Fly
