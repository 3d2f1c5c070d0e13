/- The office: a register made of events. -/
import Derived.Test.YtfcdodaakhlppaaGreatDoorSYTOM
import Derived.Test.YtfcdodaakhlppaaGreatDoorAR
set_option linter.unusedSimpArgs false
set_option linter.unusedVariables false
set_option maxRecDepth 100000
set_option maxHeartbeats 1000000
namespace Go.Fly.Tryz
open Go Off

theorem made_call {Γ : FuncId → Option Contract} {r0 : Option Nat} {k0 : K} {H : Heap} {ck : Nat} {Kn : V → Heap → Nat → Prop} (hX : (⟨Proofs.Tryz.prog, Γ, G0, r0, k0⟩ : Cx).Ok) {ln : Loc} {l : List Ev}
    (hl : H ln = some (.arr l.length 5 fun i => encEv (el l i))) (hlo : ln.1 ≤ ck) (hf : ∀ l : Loc, ck < l.1 → H l = none) (hc : Cnt levelE l) (hn : l.length ≤ 1000)
    (hKn : ∀ (y : Lay) (ck' : Nat), y.pre = [] → (∀ l ∈ y.locs, ck < l.1) → LayOk y ck' → Kn (.agg (regCells y (made levelE l))) (putReg H y (made levelE l)) ck') :
    CallT ⟨Proofs.Tryz.prog, Γ, G0, r0, k0⟩ H ck 92 [.msl ln 0 l.length] Kn := by
  have f1 := fun d => hf (ck + 1, d) (by show ck < ck + 1; omega)
  have f2 := fun d => hf (ck + 1 + 1, d) (by show ck < ck + 1 + 1; omega)
  have f3 := fun d => hf (ck + 1 + 1 + 1, d) (by show ck < ck + 1 + 1 + 1; omega)
  have e2 := fun d => freshF (l := ln) (ck := ck) (c := ck + 1 + 1) (d := d) hlo (by omega)
  have e3 := fun d => freshF (l := ln) (ck := ck) (c := ck + 1 + 1 + 1) (d := d) hlo (by omega)
  refine CallT.less (CallT.inline hX Proofs.Tryz.func92 rfl foll (D := D92) (by kernel_rfl) (tab [(iceKey 5, iceC), (inlKey 13, iceC)]) (tab_ok ⟨ice_holds, ice_holds, trivial⟩) fun k1 => ?_)
  simp only [Proofs.Tryz.f92]
  rw [app_mkT (Nat.le_of_ble_eq_true rfl)]
  simp (maxSteps := 400000) only [go_sem, ↓upXAbsY, ↓upXAbsZa, ↓upXOffC, hl, f1, f2, f3, e2, e3]
  refine ⟨by omega, ?_⟩
  generalize hH0 : updH (updH H (ck + 1 + 1, 2) _) (ck + 1 + 1 + 1, 3) _ = H0
  have hfr : ∀ l : Loc, ck + 1 + 1 + 1 < l.1 → H0 l = none := fun l hl => by
    rw [← hH0, updH_ne (by rintro rfl; exact Nat.lt_irrefl _ hl), updH_ne (by rintro rfl; exact Nat.lt_irrefl _ (Nat.lt_trans (Nat.lt_succ_self _) hl))]
    exact hf l (by omega)
  have hH2 : H0 (ck + 1 + 1, 2) = some (.cells [.int .i64 0, .nils, .nils, .nils, .nils, .nils, .nils, .int .i64 0]) := by
    rw [← hH0, updH_ne (by simp), updH_same]
  have hHl : H0 ln = some (.arr l.length 5 fun i => encEv (el l i)) := by
    rw [← hH0, updH_ne (fun q => by rw [e3] at q; exact q), updH_ne (fun q => by rw [e2] at q; exact q), hl]
  refine RestT.ents (Ents.reg0 (box := (ck + 1 + 1 + 1, 3)) (by show 3 < 1000; decide) (by rw [← hH0, updH_same]) (fun i hi => hfr _ (Nat.lt_succ_self _)) (fun l hl => hfr l (Nat.lt_of_succ_lt hl)) (Nat.le_succ _)) ?_
  have hyk : LayOk (regLay (ck + 1 + 1 + 1, 3) [] (ck + 1 + 1 + 1 + 1)) (ck + 1 + 1 + 1 + 1) := regLay_ok (by show 3 < 1000; decide) (Nat.succ_pos _) (Nat.le_succ _) (.inl rfl)
  have hyn : ∀ l ∈ (regLay (ck + 1 + 1 + 1, 3) [] (ck + 1 + 1 + 1 + 1)).locs, ck + 1 + 1 < l.1 := fun l hl => by
    simp only [Lay.locs, regLay, List.mem_cons, List.not_mem_nil, or_false] at hl
    rcases hl with rfl | rfl | rfl | rfl | rfl | rfl | rfl <;> (show ck + 1 + 1 < _; omega)
  have hyb : (regLay (ck + 1 + 1 + 1, 3) [] (ck + 1 + 1 + 1 + 1)).box = (ck + 1 + 1 + 1, 3) := rfl
  have hyp : (regLay (ck + 1 + 1 + 1, 3) [] (ck + 1 + 1 + 1 + 1)).pre = [] := rfl
  generalize hy : regLay (ck + 1 + 1 + 1, 3) [] (ck + 1 + 1 + 1 + 1) = y at hyk hyn hyb hyp ⊢
  have hpb : ∀ r, putReg H0 y r (ck + 1 + 1 + 1, 3) = some (.cells (regCells y r)) := fun r => by
    have := (putReg_at (H := H0) hyk r).box
    rw [hyp, hyb] at this
    exact this
  have hyf : y.off = 0 := by show y.pre.length = 0; rw [hyp]; rfl
  have hpl : ∀ r, putReg H0 y r ln = some (.arr l.length 5 fun i => encEv (el l i)) := fun r => by
    rw [putReg_ne (fun q => by have := hyn _ q; omega), hHl]
  have hp2 : ∀ r, putReg H0 y r (ck + 1 + 1, 2) = some (.cells [.int .i64 0, .nils, .nils, .nils, .nils, .nils, .nils, .int .i64 0]) := fun r => by
    rw [putReg_ne (fun q => by have := hyn _ q; exact Nat.lt_irrefl _ this), hH2]
  have hpf : ∀ r l, ck + 1 + 1 + 1 + 1 < l.1 → putReg H0 y r l = none := fun r l hl => by
    rw [putReg_ne (fun q => by have := hyk.hi _ q; omega), hfr l (by omega)]
  refine RestT.loopF (β := Nat) [(5, 5), (8, 14)] (fun i => [(8, .int .i64 i)]) (fun i => putReg H0 y (made levelE (l.take i))) (fun i => i ≤ l.length) (fun i => l.length - i) 0 (Nat.zero_le _) ?_ (HpLe.refl _) ?_
  · simp (maxSteps := 400000) only [go_sem, ↓upXAbsY, ↓upXAbsZa, ↓upXOffC]
    try exact rfl
  · intro c i hck hi
    have hi : i ≤ l.length := hi
    have g0 := fun r d => hpf r (c, d) (by show ck + 1 + 1 + 1 + 1 < c; omega)
    have g1 := fun r d => hpf r (c + 1, d) (by show ck + 1 + 1 + 1 + 1 < c + 1; omega)
    have g2 := fun r d => hpf r (c + 1 + 1, d) (by show ck + 1 + 1 + 1 + 1 < c + 1 + 1; omega)
    have g3 := fun r d => hpf r (c + 1 + 1 + 1, d) (by show ck + 1 + 1 + 1 + 1 < c + 1 + 1 + 1; omega)
    have l1 := fun d => freshF (l := ln) (ck := ck) (c := c + 1) (d := d) hlo (by omega)
    have l2 := fun d => freshF (l := ln) (ck := ck) (c := c + 1 + 1) (d := d) hlo (by omega)
    generalize hq0 : exC _ _ _ _ _ = gg
    by_cases hlt : i < l.length
    · have hd : decide ((i : Int) < (l.length : Int)) = true := by simp; omega
      obtain ⟨k, hk⟩ := hc i hlt
      rw [← hq0]
      clear hq0
      simp (maxSteps := 400000) only [go_sem, ↓upXAbsY, ↓upXAbsZa, ↓upXOffC, hd, hpl, g0, g1, g2, g3, l1, l2, Nat.zero_add, encEv, encStrs, encInts]
      refine ⟨⟨by omega, by omega⟩, .inl fun hX2 => ?_⟩
      have hS := fun (S : Heap) (hS : ∀ q, q ≠ (c + 1 + 1, 5) → S q = putReg H0 y (made levelE (l.take i)) q) => (putReg_at (H := H0) hyk (made levelE (l.take i))).upd (S := S) fun q hl => hS q (by rintro rfl; have : c + 1 + 1 ≤ ck + 1 + 1 + 1 + 1 := hyk.hi _ hl; omega)
      have key := fun (S : Heap) (Kn : V → Heap → Nat → Prop) (hS2 : ∀ q, q ≠ (c + 1 + 1, 5) → S q = putReg H0 y (made levelE (l.take i)) q) => apply_call (H := S) (ck := c + 1 + 1 + 1) (Kn := Kn) hX2 (hS S hS2) (hyk.mono (by omega)) (fun q hl => (hS2 q (by rintro rfl; have : c + 1 + 1 + 1 < c + 1 + 1 := hl; omega)).trans (hpf _ q (by omega))) hk.kind hk.real (hk.pre (hc.good (by omega)))
      rw [hyb, hyf] at key
      have hon : ∀ (S : Heap) (o : AObj), S = updH (updH (putReg H0 y (made levelE (l.take i))) (c + 1 + 1, 5) o) (c + 1 + 1, 5) (.cells (encEv (el l i))) → ∀ l', l' ≠ (c + 1 + 1, 5) → S l' = putReg H0 y (made levelE (l.take i)) l' := fun S o h l' q => by rw [h, updH_ne q, updH_ne q]
      refine key _ _ (hon _ _ rfl) fun ck2 hck2 => ⟨inK_of (by omega) (by omega), by omega, i + 1, hlt, by omega, rfl, ?_⟩
      rw [made_take _ _ hlt]
      exact Eq.mp (congrArg (HpLe _) (put_put H0 y (made levelE (l.take i)) (applyE levelE (made levelE (l.take i)) (el l i)))) (put_mono (hpLe_off (L := (c + 1 + 1, 5)) (hpf _ _ (by show ck + 1 + 1 + 1 + 1 < c + 1 + 1; omega)) (hon _ _ rfl)))
    · have hd : decide ((i : Int) < (l.length : Int)) = false := by simp; omega
      obtain rfl : i = l.length := by omega
      rw [← hq0]
      clear hq0
      simp (maxSteps := 400000) only [go_sem, ↓upXAbsY, ↓upXAbsZa, ↓upXOffC, hd, hp2, hpb, regCells]
      refine ⟨putReg H y (made levelE l), ?_, ?_⟩
      · rw [List.take_length]
        intro l' o ho
        by_cases hl' : l' ∈ y.locs
        · refine ⟨o, ?_, ObjLe.refl o⟩
          rw [updH_ne (by rintro rfl; exact Nat.lt_irrefl _ (hyn _ hl')), putReg_in (H' := H) hl']
          exact ho
        · rw [putReg_ne hl'] at ho
          have hlc : l'.1 ≤ ck := by
            apply Classical.byContradiction
            intro q
            rw [hf l' (by omega)] at ho
            cases ho
          refine ⟨o, ?_, ObjLe.refl o⟩
          rw [updH_ne (by rintro rfl; have : _ ≤ ck := hlc; simp only at this; omega), putReg_ne hl', ← hH0, updH_ne (by rintro rfl; have : _ ≤ ck := hlc; simp only at this; omega), updH_ne (by rintro rfl; have : _ ≤ ck := hlc; simp only at this; omega)]
          exact ho
      · rw [List.take_length]
        exact hKn y _ hyp (fun l hl => by have := hyn l hl; omega) (hyk.mono (by omega))
end Go.Fly.Tryz
