/- Part of a proof: an evaluator of the model's code by abstract values, and plain laws for it. No conditions. -/
import Derived.Test.YtfcdodaakhlppaaGreatDoorAQ
set_option linter.unusedSimpArgs false
set_option linter.unusedVariables false
/- The office: a new register. -/
namespace Go.Fly.Off
open Go
theorem tmLe_refl : ∀ l : List V, tmLe l l
  | [] => trivial
  | _ :: l => ⟨.inr rfl, tmLe_refl l⟩
def regLay (box : Loc) (pre : List V) (c : Nat) : Lay := ⟨box, pre, (c, 1000), (c, 1001), (c, 1002), (c, 1003), (c, 1004), (c, 1005)⟩
theorem Ents.reg0 {k0 : K} {c : Nat} {tm : List V} {H : Heap} {box : Loc} (hb : box.2 < 1000) (hc : H box = some (.cells [.int .i64 0, .nils, .nils, .nils, .nils, .nils, .nils, .int .i64 0])) (hn : ∀ i, 1000 ≤ i → H (c, i) = none) (hf : ∀ l : Loc, c < l.1 → H l = none) (hlo : box.1 ≤ c) :
    Ents k0 ⟨c, tm, H⟩ ⟨c + 1, tm, putReg H (regLay box [] c) {}⟩ := by
  have b : ∀ i, 1000 ≤ i → ¬ box = (c, i) := fun i hi q => by subst q; simp at hb; omega
  have b' : ∀ i, 1000 ≤ i → ¬ (c, i) = box := fun i hi q => b i hi q.symm
  have s0 := fun (H1 : Heap) (h1 : H1 box = some (.cells [.int .i64 0, .nils, .nils, .nils, .nils, .nils, .nils, .int .i64 0])) (h2 : H1 (c, 1000) = none) => Ents.nilC (k0 := k0) (s := ⟨c, tm, H1⟩) (l := (c, 1000)) (l2 := box) (j := 1) 3 (fun i => encTy (el [] i)) (b 1000 (by omega)) h1 rfl h2 rfl
  simp only [List.set] at s0
  have s1 := fun (H1 : Heap) (h1 : H1 box = some (.cells [.int .i64 0, .msl (c, 1000) 0 0, .nils, .nils, .nils, .nils, .nils, .int .i64 0])) (h2 : H1 (c, 1001) = none) => Ents.nilC (k0 := k0) (s := ⟨c, tm, H1⟩) (l := (c, 1001)) (l2 := box) (j := 2) 2 (fun i => encHo (el [] i)) (b 1001 (by omega)) h1 rfl h2 rfl
  simp only [List.set] at s1
  have s2 := fun (H1 : Heap) (h1 : H1 box = some (.cells [.int .i64 0, .msl (c, 1000) 0 0, .msl (c, 1001) 0 0, .nils, .nils, .nils, .nils, .int .i64 0])) (h2 : H1 (c, 1002) = none) => Ents.nilC (k0 := k0) (s := ⟨c, tm, H1⟩) (l := (c, 1002)) (l2 := box) (j := 3) 5 (fun i => encFl (el [] i)) (b 1002 (by omega)) h1 rfl h2 rfl
  simp only [List.set] at s2
  have s3 := fun (H1 : Heap) (h1 : H1 box = some (.cells [.int .i64 0, .msl (c, 1000) 0 0, .msl (c, 1001) 0 0, .msl (c, 1002) 0 0, .nils, .nils, .nils, .int .i64 0])) (h2 : H1 (c, 1003) = none) => Ents.nilC (k0 := k0) (s := ⟨c, tm, H1⟩) (l := (c, 1003)) (l2 := box) (j := 4) 3 (fun i => encMp (el [] i)) (b 1003 (by omega)) h1 rfl h2 rfl
  simp only [List.set] at s3
  have s4 := fun (H1 : Heap) (h1 : H1 box = some (.cells [.int .i64 0, .msl (c, 1000) 0 0, .msl (c, 1001) 0 0, .msl (c, 1002) 0 0, .msl (c, 1003) 0 0, .nils, .nils, .int .i64 0])) (h2 : H1 (c, 1004) = none) => Ents.nilC (k0 := k0) (s := ⟨c, tm, H1⟩) (l := (c, 1004)) (l2 := box) (j := 5) 4 (fun i => encOf (el [] i)) (b 1004 (by omega)) h1 rfl h2 rfl
  simp only [List.set] at s4
  have s5 := fun (H1 : Heap) (h1 : H1 box = some (.cells [.int .i64 0, .msl (c, 1000) 0 0, .msl (c, 1001) 0 0, .msl (c, 1002) 0 0, .msl (c, 1003) 0 0, .msl (c, 1004) 0 0, .nils, .int .i64 0])) (h2 : H1 (c, 1005) = none) => Ents.nilC (k0 := k0) (s := ⟨c, tm, H1⟩) (l := (c, 1005)) (l2 := box) (j := 6) 6 (fun i => encCo (el [] i)) (b 1005 (by omega)) h1 rfl h2 rfl
  simp only [List.set] at s5
  let H0 : Heap := H
  let H1 : Heap := updH (updH H0 (c, 1000) (.arr 0 3 fun i => encTy (el [] i))) box (.cells [.int .i64 0, .msl (c, 1000) 0 0, .nils, .nils, .nils, .nils, .nils, .int .i64 0])
  let H2 : Heap := updH (updH H1 (c, 1001) (.arr 0 2 fun i => encHo (el [] i))) box (.cells [.int .i64 0, .msl (c, 1000) 0 0, .msl (c, 1001) 0 0, .nils, .nils, .nils, .nils, .int .i64 0])
  let H3 : Heap := updH (updH H2 (c, 1002) (.arr 0 5 fun i => encFl (el [] i))) box (.cells [.int .i64 0, .msl (c, 1000) 0 0, .msl (c, 1001) 0 0, .msl (c, 1002) 0 0, .nils, .nils, .nils, .int .i64 0])
  let H4 : Heap := updH (updH H3 (c, 1003) (.arr 0 3 fun i => encMp (el [] i))) box (.cells [.int .i64 0, .msl (c, 1000) 0 0, .msl (c, 1001) 0 0, .msl (c, 1002) 0 0, .msl (c, 1003) 0 0, .nils, .nils, .int .i64 0])
  let H5 : Heap := updH (updH H4 (c, 1004) (.arr 0 4 fun i => encOf (el [] i))) box (.cells [.int .i64 0, .msl (c, 1000) 0 0, .msl (c, 1001) 0 0, .msl (c, 1002) 0 0, .msl (c, 1003) 0 0, .msl (c, 1004) 0 0, .nils, .int .i64 0])
  let H6 : Heap := updH (updH H5 (c, 1005) (.arr 0 6 fun i => encCo (el [] i))) box (.cells [.int .i64 0, .msl (c, 1000) 0 0, .msl (c, 1001) 0 0, .msl (c, 1002) 0 0, .msl (c, 1003) 0 0, .msl (c, 1004) 0 0, .msl (c, 1005) 0 0, .int .i64 0])
  have v1 : ∀ j, 1001 ≤ j → H1 (c, j) = none := fun j hj => by
    show updH (updH H0 (c, 1000) _) box _ (c, j) = none
    rw [updH_ne (b' j (by omega)), updH_ne fun q => absurd (congrArg Prod.snd q) (by show ¬ j = 1000; omega)]
    exact hn j (by omega)
  have v2 : ∀ j, 1002 ≤ j → H2 (c, j) = none := fun j hj => by
    show updH (updH H1 (c, 1001) _) box _ (c, j) = none
    rw [updH_ne (b' j (by omega)), updH_ne fun q => absurd (congrArg Prod.snd q) (by show ¬ j = 1001; omega)]
    exact v1 j (by omega)
  have v3 : ∀ j, 1003 ≤ j → H3 (c, j) = none := fun j hj => by
    show updH (updH H2 (c, 1002) _) box _ (c, j) = none
    rw [updH_ne (b' j (by omega)), updH_ne fun q => absurd (congrArg Prod.snd q) (by show ¬ j = 1002; omega)]
    exact v2 j (by omega)
  have v4 : ∀ j, 1004 ≤ j → H4 (c, j) = none := fun j hj => by
    show updH (updH H3 (c, 1003) _) box _ (c, j) = none
    rw [updH_ne (b' j (by omega)), updH_ne fun q => absurd (congrArg Prod.snd q) (by show ¬ j = 1003; omega)]
    exact v3 j (by omega)
  have v5 : ∀ j, 1005 ≤ j → H5 (c, j) = none := fun j hj => by
    show updH (updH H4 (c, 1004) _) box _ (c, j) = none
    rw [updH_ne (b' j (by omega)), updH_ne fun q => absurd (congrArg Prod.snd q) (by show ¬ j = 1004; omega)]
    exact v4 j (by omega)
  have v6 : ∀ j, 1006 ≤ j → H6 (c, j) = none := fun j hj => by
    show updH (updH H5 (c, 1005) _) box _ (c, j) = none
    rw [updH_ne (b' j (by omega)), updH_ne fun q => absurd (congrArg Prod.snd q) (by show ¬ j = 1005; omega)]
    exact v5 j (by omega)
  refine Ents.trans (s0 H hc (hn 1000 (by omega))) ?_
  refine Ents.trans (s1 H1 (updH_same _ _ _) (v1 1001 (by omega))) ?_
  refine Ents.trans (s2 H2 (updH_same _ _ _) (v2 1002 (by omega))) ?_
  refine Ents.trans (s3 H3 (updH_same _ _ _) (v3 1003 (by omega))) ?_
  refine Ents.trans (s4 H4 (updH_same _ _ _) (v4 1004 (by omega))) ?_
  refine Ents.trans (s5 H5 (updH_same _ _ _) (v5 1005 (by omega))) ?_
  refine Ents.go (hp := H6) (tm := tm) (tm' := tm) (tmLe_refl tm) ?_
  refine put_le (ck := c) ⟨updH_same _ _ _, ?_, ?_, ?_, ?_, ?_, ?_⟩ ?_ hf
  · exact ⟨_, by
      show H6 (c, 1000) = _
      show updH (updH H5 (c, 1005) _) box _ (c, 1000) = _
      rw [updH_ne (b' 1000 (by omega)), updH_ne (by simp)]
      show updH (updH H4 (c, 1004) _) box _ (c, 1000) = _
      rw [updH_ne (b' 1000 (by omega)), updH_ne (by simp)]
      show updH (updH H3 (c, 1003) _) box _ (c, 1000) = _
      rw [updH_ne (b' 1000 (by omega)), updH_ne (by simp)]
      show updH (updH H2 (c, 1002) _) box _ (c, 1000) = _
      rw [updH_ne (b' 1000 (by omega)), updH_ne (by simp)]
      show updH (updH H1 (c, 1001) _) box _ (c, 1000) = _
      rw [updH_ne (b' 1000 (by omega)), updH_ne (by simp)]
      show updH (updH H0 (c, 1000) _) box _ (c, 1000) = _
      rw [updH_ne (b' 1000 (by omega)), updH_same]
      rfl, ObjLe.refl _⟩
  · exact ⟨_, by
      show H6 (c, 1001) = _
      show updH (updH H5 (c, 1005) _) box _ (c, 1001) = _
      rw [updH_ne (b' 1001 (by omega)), updH_ne (by simp)]
      show updH (updH H4 (c, 1004) _) box _ (c, 1001) = _
      rw [updH_ne (b' 1001 (by omega)), updH_ne (by simp)]
      show updH (updH H3 (c, 1003) _) box _ (c, 1001) = _
      rw [updH_ne (b' 1001 (by omega)), updH_ne (by simp)]
      show updH (updH H2 (c, 1002) _) box _ (c, 1001) = _
      rw [updH_ne (b' 1001 (by omega)), updH_ne (by simp)]
      show updH (updH H1 (c, 1001) _) box _ (c, 1001) = _
      rw [updH_ne (b' 1001 (by omega)), updH_same]
      rfl, ObjLe.refl _⟩
  · exact ⟨_, by
      show H6 (c, 1002) = _
      show updH (updH H5 (c, 1005) _) box _ (c, 1002) = _
      rw [updH_ne (b' 1002 (by omega)), updH_ne (by simp)]
      show updH (updH H4 (c, 1004) _) box _ (c, 1002) = _
      rw [updH_ne (b' 1002 (by omega)), updH_ne (by simp)]
      show updH (updH H3 (c, 1003) _) box _ (c, 1002) = _
      rw [updH_ne (b' 1002 (by omega)), updH_ne (by simp)]
      show updH (updH H2 (c, 1002) _) box _ (c, 1002) = _
      rw [updH_ne (b' 1002 (by omega)), updH_same]
      rfl, ObjLe.refl _⟩
  · exact ⟨_, by
      show H6 (c, 1003) = _
      show updH (updH H5 (c, 1005) _) box _ (c, 1003) = _
      rw [updH_ne (b' 1003 (by omega)), updH_ne (by simp)]
      show updH (updH H4 (c, 1004) _) box _ (c, 1003) = _
      rw [updH_ne (b' 1003 (by omega)), updH_ne (by simp)]
      show updH (updH H3 (c, 1003) _) box _ (c, 1003) = _
      rw [updH_ne (b' 1003 (by omega)), updH_same]
      rfl, ObjLe.refl _⟩
  · exact ⟨_, by
      show H6 (c, 1004) = _
      show updH (updH H5 (c, 1005) _) box _ (c, 1004) = _
      rw [updH_ne (b' 1004 (by omega)), updH_ne (by simp)]
      show updH (updH H4 (c, 1004) _) box _ (c, 1004) = _
      rw [updH_ne (b' 1004 (by omega)), updH_same]
      rfl, ObjLe.refl _⟩
  · exact ⟨_, by
      show H6 (c, 1005) = _
      show updH (updH H5 (c, 1005) _) box _ (c, 1005) = _
      rw [updH_ne (b' 1005 (by omega)), updH_same]
      rfl, ObjLe.refl _⟩
  · intro l h1 h2
    simp only [Lay.locs, regLay, List.mem_cons, List.not_mem_nil, or_false, not_or] at h2
    obtain ⟨q0, q1, q2, q3, q4, q5, q6⟩ := h2
    show updH (updH (updH (updH (updH (updH (updH (updH (updH (updH (updH (updH H (c, 1000) _) box _) (c, 1001) _) box _) (c, 1002) _) box _) (c, 1003) _) box _) (c, 1004) _) box _) (c, 1005) _) box _ l = H l
    rw [updH_ne q0, updH_ne q6, updH_ne q0, updH_ne q5, updH_ne q0, updH_ne q4, updH_ne q0, updH_ne q3, updH_ne q0, updH_ne q2, updH_ne q0, updH_ne q1]
theorem Ents.reg2 {k0 : K} {c : Nat} {tm : List V} {H : Heap} {box : Loc} {u v : V} (hb : box.2 < 1000) (hc : H box = some (.cells [u, v, .int .i64 0, .nils, .nils, .nils, .nils, .nils, .nils, .int .i64 0])) (hn : ∀ i, 1000 ≤ i → H (c, i) = none) (hf : ∀ l : Loc, c < l.1 → H l = none) (hlo : box.1 ≤ c) :
    Ents k0 ⟨c, tm, H⟩ ⟨c + 1, tm, putReg H (regLay box [u, v] c) {}⟩ := by
  have b : ∀ i, 1000 ≤ i → ¬ box = (c, i) := fun i hi q => by subst q; simp at hb; omega
  have b' : ∀ i, 1000 ≤ i → ¬ (c, i) = box := fun i hi q => b i hi q.symm
  have s0 := fun (H1 : Heap) (h1 : H1 box = some (.cells [u, v, .int .i64 0, .nils, .nils, .nils, .nils, .nils, .nils, .int .i64 0])) (h2 : H1 (c, 1000) = none) => Ents.nilC (k0 := k0) (s := ⟨c, tm, H1⟩) (l := (c, 1000)) (l2 := box) (j := 3) 3 (fun i => encTy (el [] i)) (b 1000 (by omega)) h1 rfl h2 rfl
  simp only [List.set] at s0
  have s1 := fun (H1 : Heap) (h1 : H1 box = some (.cells [u, v, .int .i64 0, .msl (c, 1000) 0 0, .nils, .nils, .nils, .nils, .nils, .int .i64 0])) (h2 : H1 (c, 1001) = none) => Ents.nilC (k0 := k0) (s := ⟨c, tm, H1⟩) (l := (c, 1001)) (l2 := box) (j := 4) 2 (fun i => encHo (el [] i)) (b 1001 (by omega)) h1 rfl h2 rfl
  simp only [List.set] at s1
  have s2 := fun (H1 : Heap) (h1 : H1 box = some (.cells [u, v, .int .i64 0, .msl (c, 1000) 0 0, .msl (c, 1001) 0 0, .nils, .nils, .nils, .nils, .int .i64 0])) (h2 : H1 (c, 1002) = none) => Ents.nilC (k0 := k0) (s := ⟨c, tm, H1⟩) (l := (c, 1002)) (l2 := box) (j := 5) 5 (fun i => encFl (el [] i)) (b 1002 (by omega)) h1 rfl h2 rfl
  simp only [List.set] at s2
  have s3 := fun (H1 : Heap) (h1 : H1 box = some (.cells [u, v, .int .i64 0, .msl (c, 1000) 0 0, .msl (c, 1001) 0 0, .msl (c, 1002) 0 0, .nils, .nils, .nils, .int .i64 0])) (h2 : H1 (c, 1003) = none) => Ents.nilC (k0 := k0) (s := ⟨c, tm, H1⟩) (l := (c, 1003)) (l2 := box) (j := 6) 3 (fun i => encMp (el [] i)) (b 1003 (by omega)) h1 rfl h2 rfl
  simp only [List.set] at s3
  have s4 := fun (H1 : Heap) (h1 : H1 box = some (.cells [u, v, .int .i64 0, .msl (c, 1000) 0 0, .msl (c, 1001) 0 0, .msl (c, 1002) 0 0, .msl (c, 1003) 0 0, .nils, .nils, .int .i64 0])) (h2 : H1 (c, 1004) = none) => Ents.nilC (k0 := k0) (s := ⟨c, tm, H1⟩) (l := (c, 1004)) (l2 := box) (j := 7) 4 (fun i => encOf (el [] i)) (b 1004 (by omega)) h1 rfl h2 rfl
  simp only [List.set] at s4
  have s5 := fun (H1 : Heap) (h1 : H1 box = some (.cells [u, v, .int .i64 0, .msl (c, 1000) 0 0, .msl (c, 1001) 0 0, .msl (c, 1002) 0 0, .msl (c, 1003) 0 0, .msl (c, 1004) 0 0, .nils, .int .i64 0])) (h2 : H1 (c, 1005) = none) => Ents.nilC (k0 := k0) (s := ⟨c, tm, H1⟩) (l := (c, 1005)) (l2 := box) (j := 8) 6 (fun i => encCo (el [] i)) (b 1005 (by omega)) h1 rfl h2 rfl
  simp only [List.set] at s5
  let H0 : Heap := H
  let H1 : Heap := updH (updH H0 (c, 1000) (.arr 0 3 fun i => encTy (el [] i))) box (.cells [u, v, .int .i64 0, .msl (c, 1000) 0 0, .nils, .nils, .nils, .nils, .nils, .int .i64 0])
  let H2 : Heap := updH (updH H1 (c, 1001) (.arr 0 2 fun i => encHo (el [] i))) box (.cells [u, v, .int .i64 0, .msl (c, 1000) 0 0, .msl (c, 1001) 0 0, .nils, .nils, .nils, .nils, .int .i64 0])
  let H3 : Heap := updH (updH H2 (c, 1002) (.arr 0 5 fun i => encFl (el [] i))) box (.cells [u, v, .int .i64 0, .msl (c, 1000) 0 0, .msl (c, 1001) 0 0, .msl (c, 1002) 0 0, .nils, .nils, .nils, .int .i64 0])
  let H4 : Heap := updH (updH H3 (c, 1003) (.arr 0 3 fun i => encMp (el [] i))) box (.cells [u, v, .int .i64 0, .msl (c, 1000) 0 0, .msl (c, 1001) 0 0, .msl (c, 1002) 0 0, .msl (c, 1003) 0 0, .nils, .nils, .int .i64 0])
  let H5 : Heap := updH (updH H4 (c, 1004) (.arr 0 4 fun i => encOf (el [] i))) box (.cells [u, v, .int .i64 0, .msl (c, 1000) 0 0, .msl (c, 1001) 0 0, .msl (c, 1002) 0 0, .msl (c, 1003) 0 0, .msl (c, 1004) 0 0, .nils, .int .i64 0])
  let H6 : Heap := updH (updH H5 (c, 1005) (.arr 0 6 fun i => encCo (el [] i))) box (.cells [u, v, .int .i64 0, .msl (c, 1000) 0 0, .msl (c, 1001) 0 0, .msl (c, 1002) 0 0, .msl (c, 1003) 0 0, .msl (c, 1004) 0 0, .msl (c, 1005) 0 0, .int .i64 0])
  have v1 : ∀ j, 1001 ≤ j → H1 (c, j) = none := fun j hj => by
    show updH (updH H0 (c, 1000) _) box _ (c, j) = none
    rw [updH_ne (b' j (by omega)), updH_ne fun q => absurd (congrArg Prod.snd q) (by show ¬ j = 1000; omega)]
    exact hn j (by omega)
  have v2 : ∀ j, 1002 ≤ j → H2 (c, j) = none := fun j hj => by
    show updH (updH H1 (c, 1001) _) box _ (c, j) = none
    rw [updH_ne (b' j (by omega)), updH_ne fun q => absurd (congrArg Prod.snd q) (by show ¬ j = 1001; omega)]
    exact v1 j (by omega)
  have v3 : ∀ j, 1003 ≤ j → H3 (c, j) = none := fun j hj => by
    show updH (updH H2 (c, 1002) _) box _ (c, j) = none
    rw [updH_ne (b' j (by omega)), updH_ne fun q => absurd (congrArg Prod.snd q) (by show ¬ j = 1002; omega)]
    exact v2 j (by omega)
  have v4 : ∀ j, 1004 ≤ j → H4 (c, j) = none := fun j hj => by
    show updH (updH H3 (c, 1003) _) box _ (c, j) = none
    rw [updH_ne (b' j (by omega)), updH_ne fun q => absurd (congrArg Prod.snd q) (by show ¬ j = 1003; omega)]
    exact v3 j (by omega)
  have v5 : ∀ j, 1005 ≤ j → H5 (c, j) = none := fun j hj => by
    show updH (updH H4 (c, 1004) _) box _ (c, j) = none
    rw [updH_ne (b' j (by omega)), updH_ne fun q => absurd (congrArg Prod.snd q) (by show ¬ j = 1004; omega)]
    exact v4 j (by omega)
  have v6 : ∀ j, 1006 ≤ j → H6 (c, j) = none := fun j hj => by
    show updH (updH H5 (c, 1005) _) box _ (c, j) = none
    rw [updH_ne (b' j (by omega)), updH_ne fun q => absurd (congrArg Prod.snd q) (by show ¬ j = 1005; omega)]
    exact v5 j (by omega)
  refine Ents.trans (s0 H hc (hn 1000 (by omega))) ?_
  refine Ents.trans (s1 H1 (updH_same _ _ _) (v1 1001 (by omega))) ?_
  refine Ents.trans (s2 H2 (updH_same _ _ _) (v2 1002 (by omega))) ?_
  refine Ents.trans (s3 H3 (updH_same _ _ _) (v3 1003 (by omega))) ?_
  refine Ents.trans (s4 H4 (updH_same _ _ _) (v4 1004 (by omega))) ?_
  refine Ents.trans (s5 H5 (updH_same _ _ _) (v5 1005 (by omega))) ?_
  refine Ents.go (hp := H6) (tm := tm) (tm' := tm) (tmLe_refl tm) ?_
  refine put_le (ck := c) ⟨updH_same _ _ _, ?_, ?_, ?_, ?_, ?_, ?_⟩ ?_ hf
  · exact ⟨_, by
      show H6 (c, 1000) = _
      show updH (updH H5 (c, 1005) _) box _ (c, 1000) = _
      rw [updH_ne (b' 1000 (by omega)), updH_ne (by simp)]
      show updH (updH H4 (c, 1004) _) box _ (c, 1000) = _
      rw [updH_ne (b' 1000 (by omega)), updH_ne (by simp)]
      show updH (updH H3 (c, 1003) _) box _ (c, 1000) = _
      rw [updH_ne (b' 1000 (by omega)), updH_ne (by simp)]
      show updH (updH H2 (c, 1002) _) box _ (c, 1000) = _
      rw [updH_ne (b' 1000 (by omega)), updH_ne (by simp)]
      show updH (updH H1 (c, 1001) _) box _ (c, 1000) = _
      rw [updH_ne (b' 1000 (by omega)), updH_ne (by simp)]
      show updH (updH H0 (c, 1000) _) box _ (c, 1000) = _
      rw [updH_ne (b' 1000 (by omega)), updH_same]
      rfl, ObjLe.refl _⟩
  · exact ⟨_, by
      show H6 (c, 1001) = _
      show updH (updH H5 (c, 1005) _) box _ (c, 1001) = _
      rw [updH_ne (b' 1001 (by omega)), updH_ne (by simp)]
      show updH (updH H4 (c, 1004) _) box _ (c, 1001) = _
      rw [updH_ne (b' 1001 (by omega)), updH_ne (by simp)]
      show updH (updH H3 (c, 1003) _) box _ (c, 1001) = _
      rw [updH_ne (b' 1001 (by omega)), updH_ne (by simp)]
      show updH (updH H2 (c, 1002) _) box _ (c, 1001) = _
      rw [updH_ne (b' 1001 (by omega)), updH_ne (by simp)]
      show updH (updH H1 (c, 1001) _) box _ (c, 1001) = _
      rw [updH_ne (b' 1001 (by omega)), updH_same]
      rfl, ObjLe.refl _⟩
  · exact ⟨_, by
      show H6 (c, 1002) = _
      show updH (updH H5 (c, 1005) _) box _ (c, 1002) = _
      rw [updH_ne (b' 1002 (by omega)), updH_ne (by simp)]
      show updH (updH H4 (c, 1004) _) box _ (c, 1002) = _
      rw [updH_ne (b' 1002 (by omega)), updH_ne (by simp)]
      show updH (updH H3 (c, 1003) _) box _ (c, 1002) = _
      rw [updH_ne (b' 1002 (by omega)), updH_ne (by simp)]
      show updH (updH H2 (c, 1002) _) box _ (c, 1002) = _
      rw [updH_ne (b' 1002 (by omega)), updH_same]
      rfl, ObjLe.refl _⟩
  · exact ⟨_, by
      show H6 (c, 1003) = _
      show updH (updH H5 (c, 1005) _) box _ (c, 1003) = _
      rw [updH_ne (b' 1003 (by omega)), updH_ne (by simp)]
      show updH (updH H4 (c, 1004) _) box _ (c, 1003) = _
      rw [updH_ne (b' 1003 (by omega)), updH_ne (by simp)]
      show updH (updH H3 (c, 1003) _) box _ (c, 1003) = _
      rw [updH_ne (b' 1003 (by omega)), updH_same]
      rfl, ObjLe.refl _⟩
  · exact ⟨_, by
      show H6 (c, 1004) = _
      show updH (updH H5 (c, 1005) _) box _ (c, 1004) = _
      rw [updH_ne (b' 1004 (by omega)), updH_ne (by simp)]
      show updH (updH H4 (c, 1004) _) box _ (c, 1004) = _
      rw [updH_ne (b' 1004 (by omega)), updH_same]
      rfl, ObjLe.refl _⟩
  · exact ⟨_, by
      show H6 (c, 1005) = _
      show updH (updH H5 (c, 1005) _) box _ (c, 1005) = _
      rw [updH_ne (b' 1005 (by omega)), updH_same]
      rfl, ObjLe.refl _⟩
  · intro l h1 h2
    simp only [Lay.locs, regLay, List.mem_cons, List.not_mem_nil, or_false, not_or] at h2
    obtain ⟨q0, q1, q2, q3, q4, q5, q6⟩ := h2
    show updH (updH (updH (updH (updH (updH (updH (updH (updH (updH (updH (updH H (c, 1000) _) box _) (c, 1001) _) box _) (c, 1002) _) box _) (c, 1003) _) box _) (c, 1004) _) box _) (c, 1005) _) box _ l = H l
    rw [updH_ne q0, updH_ne q6, updH_ne q0, updH_ne q5, updH_ne q0, updH_ne q4, updH_ne q0, updH_ne q3, updH_ne q0, updH_ne q2, updH_ne q0, updH_ne q1]
theorem regLay_ok {box : Loc} {pre : List V} {c : Nat} (hb : box.2 < 1000) (h0 : 0 < box.1) (hlo : box.1 ≤ c) (hp : pre = [] ∨ ∃ a b, pre = [a, b]) : LayOk (regLay box pre c) c := by
  have b : ∀ i, 1000 ≤ i → ¬ box = (c, i) := fun i hi q => by subst q; simp at hb; omega
  refine ⟨?_, ?_, ?_, hp⟩
  · simp only [Lay.locs, regLay, List.nodup_cons, List.mem_cons, List.not_mem_nil, or_false, not_or]
    refine ⟨⟨b _ (by omega), b _ (by omega), b _ (by omega), b _ (by omega), b _ (by omega), b _ (by omega)⟩, ?_⟩
    simp
  · intro l hl
    simp only [Lay.locs, regLay, List.mem_cons, List.not_mem_nil, or_false] at hl
    rcases hl with rfl | rfl | rfl | rfl | rfl | rfl | rfl
    · exact h0
    all_goals (show 0 < c; omega)
  · intro l hl
    simp only [Lay.locs, regLay, List.mem_cons, List.not_mem_nil, or_false] at hl
    rcases hl with rfl | rfl | rfl | rfl | rfl | rfl | rfl
    · exact hlo
    all_goals exact Nat.le_refl c
theorem put_mono {S H : Heap} {y : Lay} {r : Reg} (h : HpLe S H) : HpLe (putReg S y r) (putReg H y r) := by
  intro l o ho
  by_cases hl : l ∈ y.locs
  · refine ⟨o, ?_, ObjLe.refl o⟩
    rw [← ho]
    simp only [Lay.locs, List.mem_cons, List.not_mem_nil, or_false] at hl
    unfold putReg
    split
    · rfl
    split
    · rfl
    split
    · rfl
    split
    · rfl
    split
    · rfl
    split
    · rfl
    split
    · rfl
    · simp_all
  · rw [putReg_ne hl] at ho ⊢
    exact h l o ho
theorem putReg_in {H H' : Heap} {y : Lay} {r : Reg} {l : Loc} (hl : l ∈ y.locs) : putReg H y r l = putReg H' y r l := by
  simp only [Lay.locs, List.mem_cons, List.not_mem_nil, or_false] at hl
  unfold putReg
  split
  · rfl
  split
  · rfl
  split
  · rfl
  split
  · rfl
  split
  · rfl
  split
  · rfl
  split
  · rfl
  · simp_all
theorem Lay.mem (y : Lay) : y.box ∈ y.locs ∧ y.n0 ∈ y.locs ∧ y.n1 ∈ y.locs ∧ y.n2 ∈ y.locs ∧ y.n3 ∈ y.locs ∧ y.n4 ∈ y.locs ∧ y.n5 ∈ y.locs := by simp [Lay.locs]
theorem RegAt.upd {H S : Heap} {y : Lay} {r : Reg} (h : RegAt H y r) (hs : ∀ l ∈ y.locs, S l = H l) : RegAt S y r := by
  obtain ⟨m0, m1, m2, m3, m4, m5, m6⟩ := y.mem
  exact ⟨(hs _ m0).trans h.box, (hs _ m1).trans h.types, (hs _ m2).trans h.houses, (hs _ m3).trans h.flights, (hs _ m4).trans h.maps, (hs _ m5).trans h.offers, (hs _ m6).trans h.complaints⟩
theorem hpLe_off {S H : Heap} {L : Loc} (hn : H L = none) (h : ∀ l, l ≠ L → S l = H l) : HpLe S H := fun l o ho => by
  refine ⟨o, ?_, ObjLe.refl o⟩
  rw [h l (by rintro rfl; rw [hn] at ho; cases ho)]
  exact ho
end Go.Fly.Off
