/- The office: an event with lists of its own. -/
import Derived.Test.YtfcdodaakhlppaaGreatDoorSYTOL
import Derived.Test.YtfcdodaakhlppaaGreatDoorAQ
set_option linter.unusedSimpArgs false
set_option linter.unusedVariables false
set_option maxRecDepth 100000
set_option maxHeartbeats 1000000
namespace Go.Fly.Tryz
open Go Off

theorem own_call {Γ : FuncId → Option Contract} {r0 : Option Nat} {k0 : K} {e : Ev} {Kn : V → Heap → Nat → Prop} (hX : (⟨Proofs.Tryz.prog, Γ, G0, r0, k0⟩ : Cx).Ok) (h1 : e.names.length ≤ 1000000) (h2 : e.vals.length ≤ 1000000)
    (hKn : ∀ r hp' ck', VEnt (frz 5 hp' r) (.agg (encEv e)) → Kn r hp' ck') :
    CallT ⟨Proofs.Tryz.prog, Γ, G0, r0, k0⟩ (fun _ => none) 1 78 [.agg (encEv e)] Kn := by
  refine CallT.inline hX Proofs.Tryz.func78 rfl foll (D := D78) (by kernel_rfl) (tab []) (tab_ok trivial) fun k1 => ?_
  simp only [Proofs.Tryz.f78]
  rw [app_mkT (Nat.le_of_ble_eq_true rfl)]
  simp (maxSteps := 400000) only [go_sem, ↓upXAbsY, ↓upXAbsZa, ↓upXOffC, encEv, encStrs, encInts]
  refine ⟨⟨by omega, by omega, by omega, by omega⟩, ⟨by omega, by omega, by omega, by omega⟩, hKn _ _ _ (VEnt.of_eq ?_)⟩
  simp (maxSteps := 400000) only [go_sem, ↓upXAbsY, ↓upXAbsZa, ↓upXOffC, Nat.zero_add, encStrs, encInts]
  rfl
theorem oOwn_ok : Holds Proofs.Tryz.prog G0 78 ownC := by
  refine Holds.of_callT G0_ok (fun _ _ => rfl) fun k0 rl args hX hpu hpre => ?_
  obtain ⟨e, rfl, h1, h2⟩ := hpre
  show CallT _ _ _ _ _ _
  refine own_call hX h1 h2 fun r hp' ck' h => ?_
  show VEnt _ (.agg (encEv (decEv (cellsOf (.agg (encEv e))))))
  rw [cellsOf_agg, dec_ev]
  exact h
end Go.Fly.Tryz
