/- Part of a proof: an evaluator of the model's code by abstract values, and plain laws for it. No conditions. -/
import Derived.Test.YtfcdodaakhlppaaGreatDoorAS
set_option linter.unusedSimpArgs false
set_option linter.unusedVariables false
/- The office: a new history; a history read out. -/
namespace Go.Fly.Off
open Go
theorem frz_hist {H : Heap} {y : Lay} {ne nc : Loc} {h : Hist} (n : Nat) (hat : HAt H y ne nc h) : frz (n + 3) H (.ptr y.box 0) = .cptr (encHist h) := by
  have hn0 : H y.n0 = some (.arr h.now.types.length 3 fun i => encTy (el h.now.types i)) := hat.reg.types
  have hn1 : H y.n1 = some (.arr h.now.houses.length 2 fun i => encHo (el h.now.houses i)) := hat.reg.houses
  have hn2 : H y.n2 = some (.arr h.now.flights.length 5 fun i => encFl (el h.now.flights i)) := hat.reg.flights
  have hn3 : H y.n3 = some (.arr h.now.maps.length 3 fun i => encMp (el h.now.maps i)) := hat.reg.maps
  have hn4 : H y.n4 = some (.arr h.now.offers.length 4 fun i => encOf (el h.now.offers i)) := hat.reg.offers
  have hn5 : H y.n5 = some (.arr h.now.complaints.length 6 fun i => encCo (el h.now.complaints i)) := hat.reg.complaints
  have he := hat.ev
  have hc := hat.ct
  have hb := hat.reg.box
  rw [hat.pre] at hb
  rw [frz_ptr, hb]
  simp only [regCells, List.cons_append, List.nil_append, go_sem, ↓upXAbsY, ↓upXAbsZa, ↓upXOffC, hn0, hn1, hn2, hn3, hn4, hn5, he, hc, Nat.zero_add]
  rfl
theorem HAt.upd {H S : Heap} {y : Lay} {ne nc : Loc} {h : Hist} (hat : HAt H y ne nc h) (hs : ∀ q, q ∈ y.locs ∨ q = ne ∨ q = nc → S q = H q) : HAt S y ne nc h :=
  ⟨hat.reg.upd fun l hl => hs l (.inl hl), hat.pre, (hs ne (.inr (.inl rfl))).trans hat.ev, (hs nc (.inr (.inr rfl))).trans hat.ct⟩
/-- A new history. -/
theorem Ents.hist {c : Nat} {tm : List V} {H : Heap} {box : Loc} (hb : box.2 < 900) (hc : H box = some (.cells [.nils, .nils, .int .i64 0, .nils, .nils, .nils, .nils, .nils, .nils, .int .i64 0])) (hn : ∀ i, 900 ≤ i → H (c, i) = none) (hf : ∀ l : Loc, c < l.1 → H l = none) (hlo : box.1 ≤ c) (h0 : 0 < box.1) :
    ∃ S y, (∀ k0 : K, Ents k0 ⟨c, tm, H⟩ ⟨c + 1, tm, S⟩) ∧ y.box = box ∧ HAt S y (c, 900) (c, 901) {} ∧ HLayOk y (c, 900) (c, 901) c ∧ ∀ l : Loc, c < l.1 → S l = none := by
  have b : ∀ i, 900 ≤ i → ¬ box = (c, i) := fun i hi q => by subst q; simp at hb; omega
  have b' : ∀ i, 900 ≤ i → ¬ (c, i) = box := fun i hi q => b i hi q.symm
  have s0 := fun k0 => Ents.nilC (k0 := k0) (s := ⟨c, tm, H⟩) (l := (c, 900)) (l2 := box) (j := 0) 5 (fun i => encEv (el [] i)) (b 900 (by omega)) hc rfl (hn 900 (by omega)) rfl
  simp only [List.set] at s0
  let H1 : Heap := updH (updH H (c, 900) (.arr 0 5 fun i => encEv (el [] i))) box (.cells [.msl (c, 900) 0 0, .nils, .int .i64 0, .nils, .nils, .nils, .nils, .nils, .nils, .int .i64 0])
  have v1 : ∀ j, 901 ≤ j → H1 (c, j) = none := fun j hj => by
    show updH (updH H (c, 900) _) box _ (c, j) = none
    rw [updH_ne (b' j (by omega)), updH_ne fun q => absurd (congrArg Prod.snd q) (by show ¬ j = 900; omega)]
    exact hn j (by omega)
  have s1 := fun k0 => Ents.nilC (k0 := k0) (s := ⟨c, tm, H1⟩) (l := (c, 901)) (l2 := box) (j := 1) 5 (fun i => encEv (el [] i)) (b 901 (by omega)) (updH_same _ _ _) rfl (v1 901 (by omega)) rfl
  simp only [List.set] at s1
  let H2 : Heap := updH (updH H1 (c, 901) (.arr 0 5 fun i => encEv (el [] i))) box (.cells [.msl (c, 900) 0 0, .msl (c, 901) 0 0, .int .i64 0, .nils, .nils, .nils, .nils, .nils, .nils, .int .i64 0])
  have v2 : ∀ j, 902 ≤ j → H2 (c, j) = none := fun j hj => by
    show updH (updH H1 (c, 901) _) box _ (c, j) = none
    rw [updH_ne (b' j (by omega)), updH_ne fun q => absurd (congrArg Prod.snd q) (by show ¬ j = 901; omega)]
    exact v1 j (by omega)
  have hl : ∀ l : Loc, c < l.1 → ∀ d, ¬ l = (c, d) := fun l h d q => by subst q; exact Nat.lt_irrefl _ h
  have f2 : ∀ l : Loc, c < l.1 → H2 l = none := fun l h => by
    have q : ¬ l = box := by rintro rfl; omega
    show updH (updH (updH (updH H (c, 900) _) box _) (c, 901) _) box _ l = none
    rw [updH_ne q, updH_ne (hl l h _), updH_ne q, updH_ne (hl l h _), hf l h]
  have hy : LayOk (regLay box [.msl (c, 900) 0 0, .msl (c, 901) 0 0] c) c := regLay_ok (by omega) h0 hlo (.inr ⟨_, _, rfl⟩)
  have out : ∀ i, i < 1000 → 900 ≤ i → (c, i) ∉ (regLay box [.msl (c, 900) 0 0, .msl (c, 901) 0 0] c).locs := fun i h1 h2 q => by
    simp only [Lay.locs, regLay, List.mem_cons, List.not_mem_nil, or_false, Prod.mk.injEq, true_and] at q
    rcases q with q | q | q | q | q | q | q
    · exact b' i h2 q
    all_goals omega
  refine ⟨putReg H2 (regLay box [.msl (c, 900) 0 0, .msl (c, 901) 0 0] c) {}, regLay box [.msl (c, 900) 0 0, .msl (c, 901) 0 0] c, fun k0 => Ents.trans (s0 k0) (Ents.trans (s1 k0) (Ents.reg2 (by omega) (updH_same _ _ _) (fun i hi => v2 i (by omega)) f2 hlo)), rfl, ⟨putReg_at hy {}, rfl, ?_, ?_⟩, ⟨hy, by simp, out 900 (by omega) (by omega), out 901 (by omega) (by omega), Nat.le_refl _, Nat.le_refl _⟩, fun l h => ?_⟩
  · rw [putReg_ne (out 900 (by omega) (by omega))]
    show updH (updH (updH (updH H (c, 900) _) box _) (c, 901) _) box _ (c, 900) = _
    rw [updH_ne (b' 900 (by omega)), updH_ne (by simp), updH_ne (b' 900 (by omega)), updH_same]
    rfl
  · rw [putReg_ne (out 901 (by omega) (by omega))]
    show updH (updH _ (c, 901) _) box _ (c, 901) = _
    rw [updH_ne (b' 901 (by omega)), updH_same]
    rfl
  · rw [putReg_ne (fun q => by have := hy.hi _ q; omega), f2 l h]
theorem inQ_ret3 {X : Cx} {a b c : Tmp} {Kn : V → St → Prop} {s : St} : inQ X [.tmp a, .tmp b, .tmp c] Kn .ret s = Kn (.tup [s.tm.getD a .top, s.tm.getD b .top, s.tm.getD c .top]) s := by
  rw [inQ]
  simp [resultV, resL, res1]
attribute [go_sem] inQ_ret3
def replC : Contract := fun _ args => ⟨∃ l, args = [encRows 5 encEv l] ∧ l.length ≤ 1000000 ∧ ∀ e ∈ l, EvB e,
  .tup [.cptr (encHist (replayed levelE (decRows decEv (arg args 0))).1), .int .i64 (replayed levelE (decRows decEv (arg args 0))).2.1, .int .i64 (replayed levelE (decRows decEv (arg args 0))).2.2], none⟩
attribute [go_sem] replC
end Go.Fly.Off
