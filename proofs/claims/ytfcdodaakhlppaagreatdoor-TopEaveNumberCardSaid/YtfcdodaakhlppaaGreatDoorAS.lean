/- Part of a proof: an evaluator of the model's code by abstract values, and plain laws for it. No conditions. -/
import Derived.Test.YtfcdodaakhlppaaGreatDoorAR
set_option linter.unusedSimpArgs false
set_option linter.unusedVariables false
/- The office: a history that is being changed. -/
namespace Go.Fly.Off
open Go
structure HAt (H : Heap) (y : Lay) (ne nc : Loc) (h : Hist) : Prop where
  reg : RegAt H y h.now
  pre : y.pre = [.msl ne 0 h.events.length, .msl nc 0 h.counted.length]
  ev : H ne = some (.arr h.events.length 5 fun i => encEv (el h.events i))
  ct : H nc = some (.arr h.counted.length 5 fun i => encEv (el h.counted i))
structure HLayOk (y : Lay) (ne nc : Loc) (ck : Nat) : Prop where
  lay : LayOk y ck
  ne_nc : ne ≠ nc
  ne_out : ne ∉ y.locs
  nc_out : nc ∉ y.locs
  ne_lo : ne.1 ≤ ck
  nc_lo : nc.1 ≤ ck
theorem el_dropLast {α : Type} [Inhabited α] {l : List α} {i : Nat} (h : i < l.length - 1) : el l.dropLast i = el l i := by
  rw [el_get _ (by rw [List.length_dropLast]; exact h), el_get _ (by omega), List.getElem_dropLast]
/-- A history put down. -/
def putH (H : Heap) (y : Lay) (ne nc : Loc) (ev ct : List Ev) (r : Reg) : Heap :=
  updH (updH (putReg H { y with pre := [.msl ne 0 ev.length, .msl nc 0 ct.length] } r) ne (.arr ev.length 5 fun i => encEv (el ev i))) nc (.arr ct.length 5 fun i => encEv (el ct i))
theorem LayOk.withPre {y : Lay} {ck : Nat} (h : LayOk y ck) (a b : V) : LayOk { y with pre := [a, b] } ck := ⟨h.nd, h.lo, h.hi, .inr ⟨a, b, rfl⟩⟩
theorem putH_at {H : Heap} {y : Lay} {ne nc : Loc} {ck : Nat} (hy : HLayOk y ne nc ck) (ev ct : List Ev) (r : Reg) : HAt (putH H y ne nc ev ct r) { y with pre := [.msl ne 0 ev.length, .msl nc 0 ct.length] } ne nc ⟨ev, ct, r⟩ :=
  ⟨(putReg_at (H := H) (hy.lay.withPre (.msl ne 0 ev.length) (.msl nc 0 ct.length)) r).upd fun l hl => by
      show updH (updH _ _ _) _ _ _ = _
      rw [updH_ne (by rintro rfl; exact hy.nc_out hl), updH_ne (by rintro rfl; exact hy.ne_out hl)], rfl,
    (updH_ne hy.ne_nc).trans (updH_same _ _ _), updH_same _ _ _⟩
theorem hist_le {S H : Heap} {y : Lay} {ne nc : Loc} {ck : Nat} {h : Hist} {ev ct : List Ev} (hat : HAt H y ne nc h) (hy : HLayOk y ne nc ck) (hf : ∀ l : Loc, ck < l.1 → H l = none)
    (hb : S y.box = some (.cells ([.msl ne 0 ev.length, .msl nc 0 ct.length] ++ regCells y h.now))) (he : ∃ o, S ne = some o ∧ ObjLe o (.arr ev.length 5 fun i => encEv (el ev i))) (hc : ∃ o, S nc = some o ∧ ObjLe o (.arr ct.length 5 fun i => encEv (el ct i)))
    (hs : Chg S H ck [y.box, ne, nc]) : HpLe S (putH H y ne nc ev ct h.now) := by
  intro l o ho
  unfold putH at ho
  by_cases q1 : l = nc
  · subst q1
    rw [updH_same] at ho
    cases ho
    exact hc
  rw [updH_ne q1] at ho
  by_cases q2 : l = ne
  · subst q2
    rw [updH_same] at ho
    cases ho
    exact he
  rw [updH_ne q2] at ho
  have hp := putReg_at (H := H) (hy.lay.withPre (.msl ne 0 ev.length) (.msl nc 0 ct.length)) h.now
  have nd := hy.lay.nd
  simp only [Lay.locs, List.nodup_cons, List.mem_cons, List.not_mem_nil, or_false, not_or] at nd
  obtain ⟨⟨a1, a2, a3, a4, a5, a6⟩, -⟩ := nd
  have hs' : ∀ l, l ∈ y.locs → ¬ l = y.box → S l = H l := fun l hl hb => hs l (hy.lay.hi _ hl) (by
    simp only [List.mem_cons, List.not_mem_nil, or_false, not_or]
    exact ⟨hb, fun q => hy.ne_out (q ▸ hl), fun q => hy.nc_out (q ▸ hl)⟩)
  obtain ⟨m0, m1, m2, m3, m4, m5, m6⟩ := y.mem
  by_cases hl : l ∈ y.locs
  · simp only [Lay.locs, List.mem_cons, List.not_mem_nil, or_false] at hl
    rcases hl with rfl | rfl | rfl | rfl | rfl | rfl | rfl
    · rw [hp.box] at ho; cases ho; exact ⟨_, hb, ObjLe.refl _⟩
    · rw [hp.types] at ho; cases ho; exact ⟨_, (hs' _ m1 (Ne.symm a1)).trans hat.reg.types, ObjLe.refl _⟩
    · rw [hp.houses] at ho; cases ho; exact ⟨_, (hs' _ m2 (Ne.symm a2)).trans hat.reg.houses, ObjLe.refl _⟩
    · rw [hp.flights] at ho; cases ho; exact ⟨_, (hs' _ m3 (Ne.symm a3)).trans hat.reg.flights, ObjLe.refl _⟩
    · rw [hp.maps] at ho; cases ho; exact ⟨_, (hs' _ m4 (Ne.symm a4)).trans hat.reg.maps, ObjLe.refl _⟩
    · rw [hp.offers] at ho; cases ho; exact ⟨_, (hs' _ m5 (Ne.symm a5)).trans hat.reg.offers, ObjLe.refl _⟩
    · rw [hp.complaints] at ho; cases ho; exact ⟨_, (hs' _ m6 (Ne.symm a6)).trans hat.reg.complaints, ObjLe.refl _⟩
  · replace ho := (putReg_ne (H := H) (y := { y with pre := [.msl ne 0 ev.length, .msl nc 0 ct.length] }) (r := h.now) hl).symm.trans ho
    have hlc : l.1 ≤ ck := by
      apply Classical.byContradiction
      intro q
      rw [hf l (by omega)] at ho
      cases ho
    exact ⟨o, (hs l hlc (by
      simp only [List.mem_cons, List.not_mem_nil, or_false, not_or]
      exact ⟨fun q => hl (q ▸ m0), q2, q1⟩)).trans ho, ObjLe.refl o⟩
theorem putH_free {H : Heap} {y : Lay} {ne nc : Loc} {ck : Nat} (hy : HLayOk y ne nc ck) (hf : ∀ l : Loc, ck < l.1 → H l = none) {ev ct : List Ev} {r : Reg} {l : Loc} (hl : ck < l.1) : putH H y ne nc ev ct r l = none := by
  unfold putH
  rw [updH_ne (by rintro rfl; have := hy.nc_lo; omega), updH_ne (by rintro rfl; have := hy.ne_lo; omega), putReg_ne (fun q => by have := hy.lay.hi l q; omega), hf l hl]
theorem HLayOk.mono {y : Lay} {ne nc : Loc} {ck ck' : Nat} (h : HLayOk y ne nc ck) (hc : ck ≤ ck') : HLayOk y ne nc ck' := ⟨h.lay.mono hc, h.ne_nc, h.ne_out, h.nc_out, Nat.le_trans h.ne_lo hc, Nat.le_trans h.nc_lo hc⟩
theorem HLayOk.withPre {y : Lay} {ne nc : Loc} {ck : Nat} (h : HLayOk y ne nc ck) (a b : V) : HLayOk { y with pre := [a, b] } ne nc ck := ⟨h.lay.withPre a b, h.ne_nc, h.ne_out, h.nc_out, h.ne_lo, h.nc_lo⟩
theorem hist_le2 {S H : Heap} {y : Lay} {ne nc : Loc} {ck : Nat} {r : Reg} {ev ct : List Ev} (hat : RegAt H y r) (hl0 : LayOk y ck) (hne : ne ∉ y.locs) (hnc : nc ∉ y.locs)
    (hb : S y.box = some (.cells ([.msl ne 0 ev.length, .msl nc 0 ct.length] ++ regCells y r))) (he : ∃ o, S ne = some o ∧ ObjLe o (.arr ev.length 5 fun i => encEv (el ev i))) (hc : ∃ o, S nc = some o ∧ ObjLe o (.arr ct.length 5 fun i => encEv (el ct i)))
    (hs : ∀ l o, H l = some o → l ∉ [y.box, ne, nc] → S l = some o) : HpLe S (putH H y ne nc ev ct r) := by
  intro l o ho
  unfold putH at ho
  by_cases q1 : l = nc
  · subst q1
    rw [updH_same] at ho
    cases ho
    exact hc
  rw [updH_ne q1] at ho
  by_cases q2 : l = ne
  · subst q2
    rw [updH_same] at ho
    cases ho
    exact he
  rw [updH_ne q2] at ho
  have hp := putReg_at (H := H) (hl0.withPre (.msl ne 0 ev.length) (.msl nc 0 ct.length)) r
  have nd := hl0.nd
  simp only [Lay.locs, List.nodup_cons, List.mem_cons, List.not_mem_nil, or_false, not_or] at nd
  obtain ⟨⟨a1, a2, a3, a4, a5, a6⟩, -⟩ := nd
  have hs' : ∀ l o, l ∈ y.locs → ¬ l = y.box → H l = some o → S l = some o := fun l o hl hb ho => hs l o ho (by
    simp only [List.mem_cons, List.not_mem_nil, or_false, not_or]
    exact ⟨hb, fun q => hne (q ▸ hl), fun q => hnc (q ▸ hl)⟩)
  obtain ⟨m0, m1, m2, m3, m4, m5, m6⟩ := y.mem
  by_cases hl : l ∈ y.locs
  · simp only [Lay.locs, List.mem_cons, List.not_mem_nil, or_false] at hl
    rcases hl with rfl | rfl | rfl | rfl | rfl | rfl | rfl
    · rw [hp.box] at ho; cases ho; exact ⟨_, hb, ObjLe.refl _⟩
    · rw [hp.types] at ho; cases ho; exact ⟨_, hs' _ _ m1 (Ne.symm a1) hat.types, ObjLe.refl _⟩
    · rw [hp.houses] at ho; cases ho; exact ⟨_, hs' _ _ m2 (Ne.symm a2) hat.houses, ObjLe.refl _⟩
    · rw [hp.flights] at ho; cases ho; exact ⟨_, hs' _ _ m3 (Ne.symm a3) hat.flights, ObjLe.refl _⟩
    · rw [hp.maps] at ho; cases ho; exact ⟨_, hs' _ _ m4 (Ne.symm a4) hat.maps, ObjLe.refl _⟩
    · rw [hp.offers] at ho; cases ho; exact ⟨_, hs' _ _ m5 (Ne.symm a5) hat.offers, ObjLe.refl _⟩
    · rw [hp.complaints] at ho; cases ho; exact ⟨_, hs' _ _ m6 (Ne.symm a6) hat.complaints, ObjLe.refl _⟩
  · replace ho := (putReg_ne (H := H) (y := { y with pre := [.msl ne 0 ev.length, .msl nc 0 ct.length] }) (r := r) hl).symm.trans ho
    exact ⟨o, hs l o ho (by
      simp only [List.mem_cons, List.not_mem_nil, or_false, not_or]
      exact ⟨fun q => hl (q ▸ m0), q2, q1⟩), ObjLe.refl o⟩
/-- A history whose register has been made anew. -/
theorem undo_at {H : Heap} {y y2 : Lay} {ne nc : Loc} {c ck : Nat} {ev ct : List Ev} {r : Reg} (hy : HLayOk y ne nc c) (hc : c ≤ ck) (h2 : LayOk y2 ck) (hnew : ∀ l ∈ y2.locs, c < l.1)
    (he : H ne = some (.arr ev.length 5 fun i => encEv (el ev i))) (ht : H nc = some (.arr ct.length 5 fun i => encEv (el ct i))) :
    HAt (updH (putReg H y2 r) y.box (.cells ([.msl ne 0 ev.length, .msl nc 0 ct.length] ++ regCells y2 r))) ⟨y.box, [.msl ne 0 ev.length, .msl nc 0 ct.length], y2.n0, y2.n1, y2.n2, y2.n3, y2.n4, y2.n5⟩ ne nc ⟨ev, ct, r⟩ ∧
    HLayOk ⟨y.box, [.msl ne 0 ev.length, .msl nc 0 ct.length], y2.n0, y2.n1, y2.n2, y2.n3, y2.n4, y2.n5⟩ ne nc ck := by
  have hp := putReg_at (H := H) h2 r
  obtain ⟨m0, m1, m2, m3, m4, m5, m6⟩ := y2.mem
  have hb := hy.lay.hi _ y.mem.1
  have nb : ∀ l ∈ y2.locs, l ≠ y.box := fun l hl q => by have := hnew l hl; rw [q] at this; omega
  have ob : ∀ l : Loc, l.1 ≤ c → l ∉ y2.locs := fun l hl q => by have := hnew l q; omega
  have a1 : ¬ ne = y.box := fun q => hy.ne_out (q ▸ y.mem.1)
  have a2 : ¬ nc = y.box := fun q => hy.nc_out (q ▸ y.mem.1)
  have nd := h2.nd
  refine ⟨⟨⟨updH_same _ _ _, (updH_ne (nb _ m1)).trans hp.types, (updH_ne (nb _ m2)).trans hp.houses, (updH_ne (nb _ m3)).trans hp.flights, (updH_ne (nb _ m4)).trans hp.maps, (updH_ne (nb _ m5)).trans hp.offers, (updH_ne (nb _ m6)).trans hp.complaints⟩, rfl,
    (updH_ne a1).trans ((putReg_ne (ob _ hy.ne_lo)).trans he), (updH_ne a2).trans ((putReg_ne (ob _ hy.nc_lo)).trans ht)⟩, ⟨?_, ?_, ?_, .inr ⟨_, _, rfl⟩⟩, hy.ne_nc, ?_, ?_, Nat.le_trans hy.ne_lo hc, Nat.le_trans hy.nc_lo hc⟩
  · simp only [Lay.locs, List.nodup_cons] at nd ⊢
    refine ⟨?_, nd.2⟩
    simp only [List.mem_cons, List.not_mem_nil, or_false, not_or]
    exact ⟨Ne.symm (nb _ m1), Ne.symm (nb _ m2), Ne.symm (nb _ m3), Ne.symm (nb _ m4), Ne.symm (nb _ m5), Ne.symm (nb _ m6)⟩
  · intro l hl
    simp only [Lay.locs, List.mem_cons, List.not_mem_nil, or_false] at hl
    rcases hl with rfl | rfl | rfl | rfl | rfl | rfl | rfl
    · exact hy.lay.lo _ y.mem.1
    all_goals (apply h2.lo; assumption)
  · intro l hl
    simp only [Lay.locs, List.mem_cons, List.not_mem_nil, or_false] at hl
    rcases hl with rfl | rfl | rfl | rfl | rfl | rfl | rfl
    · exact Nat.le_trans hb hc
    all_goals (apply h2.hi; assumption)
  · simp only [Lay.locs, List.mem_cons, List.not_mem_nil, or_false, not_or]
    have := ob _ hy.ne_lo
    exact ⟨a1, fun q => this (q ▸ m1), fun q => this (q ▸ m2), fun q => this (q ▸ m3), fun q => this (q ▸ m4), fun q => this (q ▸ m5), fun q => this (q ▸ m6)⟩
  · simp only [Lay.locs, List.mem_cons, List.not_mem_nil, or_false, not_or]
    have := ob _ hy.nc_lo
    exact ⟨a2, fun q => this (q ▸ m1), fun q => this (q ▸ m2), fun q => this (q ▸ m3), fun q => this (q ▸ m4), fun q => this (q ▸ m5), fun q => this (q ▸ m6)⟩
end Go.Fly.Off
