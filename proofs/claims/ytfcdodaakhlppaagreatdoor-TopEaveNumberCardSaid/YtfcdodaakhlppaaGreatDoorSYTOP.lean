/- The office: a journal played again. -/
import Derived.Test.YtfcdodaakhlppaaGreatDoorSYTOO
import Derived.Test.YtfcdodaakhlppaaGreatDoorAT
set_option linter.unusedSimpArgs false
set_option linter.unusedVariables false
set_option maxRecDepth 100000
set_option maxHeartbeats 1000000
namespace Go.Fly.Tryz
open Go Off

structure RP where
  S : Heap
  y : Lay
  ne : Loc
  nc : Loc
  h : Hist
  i : Nat
structure RPInv (l : List Ev) (box : Loc) (c : Nat) (b : RP) : Prop where
  at_ : HAt b.S b.y b.ne b.nc b.h
  lay : HLayOk b.y b.ne b.nc c
  box : b.y.box = box
  free : ∀ q : Loc, c ≤ q.1 → b.S q = none
  ok : HOk levelE b.h
  ev : b.h.events.length = b.i
  le : b.i ≤ l.length
  eq : replayL levelE {} l 0 = replayL levelE b.h (l.drop b.i) b.i

theorem replayed_call {Γ : FuncId → Option Contract} {r0 : Option Nat} {k0 : K} {H : Heap} {ck : Nat} {Kn : V → Heap → Nat → Prop} (hX : (⟨Proofs.Tryz.prog, Γ, G0, r0, k0⟩ : Cx).Ok) {l : List Ev}
    (hf : ∀ q : Loc, ck < q.1 → H q = none) (hl : l.length ≤ 1000000) (hE : ∀ e ∈ l, EvB e)
    (hKn : ∀ S y ne nc ck' h n w, (h, n, w) = replayed levelE l → HAt S y ne nc h → HLayOk y ne nc ck' → HOk levelE h → (∀ q : Loc, ck' < q.1 → S q = none) → Kn (.tup [.ptr y.box 0, .int .i64 n, .int .i64 w]) S ck') :
    CallT ⟨Proofs.Tryz.prog, Γ, G0, r0, k0⟩ H ck 46 [encRows 5 encEv l] Kn := by
  have f1 := fun d => hf (ck + 1, d) (by show ck < ck + 1; omega)
  have f2 := fun d => hf (ck + 1 + 1, d) (by show ck < ck + 1 + 1; omega)
  have f3 := fun d => hf (ck + 1 + 1 + 1, d) (by show ck < ck + 1 + 1 + 1; omega)
  refine CallT.post (CallT.inline hX Proofs.Tryz.func46 rfl foll (D := D46) (by kernel_rfl) (tab [(48, eventC), (50, acceptC), (iceKey 7, iceC), (inlKey 37, iceC)]) (tab_ok ⟨oEvent_ok, oAccepts_ok, ice_holds, ice_holds, trivial⟩) fun k1 => ?_)
  simp only [Proofs.Tryz.f46]
  rw [app_mkT (Nat.le_of_ble_eq_true rfl)]
  have hfr : ∀ q : Loc, ck + 1 + 1 + 1 < q.1 → updH H (ck + 1 + 1 + 1, 10) (.cells [.nils, .nils, .int .i64 0, .nils, .nils, .nils, .nils, .nils, .nils, .int .i64 0]) q = none := fun q hq => by
    rw [updH_ne (by rintro rfl; exact Nat.lt_irrefl _ hq)]; exact hf q (by omega)
  have hst := fun tm => Ents.hist (c := ck + 1 + 1 + 1 + 1 + 1) (tm := tm) (box := (ck + 1 + 1 + 1, 10)) (H := updH H (ck + 1 + 1 + 1, 10) (.cells [.nils, .nils, .int .i64 0, .nils, .nils, .nils, .nils, .nils, .nils, .int .i64 0])) (by show 10 < 900; omega) (updH_same _ _ _) (fun i _ => hfr _ (by show ck + 1 + 1 + 1 < ck + 1 + 1 + 1 + 1 + 1; omega)) (fun q hq => hfr q (by omega)) (by show ck + 1 + 1 + 1 ≤ _; omega) (Nat.succ_pos _)
  by_cases c1 : 1000 < l.length
  · have d1 : decide ((1000 : Int) < (l.length : Int)) = true := decide_eq_true (by omega)
    simp (maxSteps := 400000) only [go_sem, ↓upXAbsY, ↓upXAbsZa, ↓upXOffC, encRows, f1, f2, f3, d1]
    obtain ⟨S, y, h1, h2, h3, h4, h5⟩ := hst [.tup [.ptr (ck + 1 + 1 + 1, 10) 0, .int .i64 0, .int .i64 5]]
    have := hKn S y _ _ (ck + 1 + 1 + 1 + 1 + 1 + 1) {} 0 5 (by unfold replayed; rw [if_pos c1]) h3 (h4.mono (Nat.le_succ _)) HOk.init fun q hq => h5 q (by omega)
    rw [h2] at this
    exact ⟨_, S, _, fun k0 => h1 k0, this⟩
  · have d1 : decide ((1000 : Int) < (l.length : Int)) = false := decide_eq_false (by omega)
    simp (maxSteps := 400000) only [go_sem, ↓upXAbsY, ↓upXAbsZa, ↓upXOffC, encRows, f1, f2, f3, d1]
    obtain ⟨S, y, h1, h2, h3, h4, h5⟩ := hst _
    refine RestT.ents (h1 _) ?_
    refine RestT.loopG (β := RP) [(2, 4), (6, 8), (17, 38)] (fun b => [(17, .int .i64 b.i)]) (fun b => b.S) (fun c b => RPInv l (ck + 1 + 1 + 1, 10) c b) (fun b => l.length - b.i) ⟨S, y, (ck + 1 + 1 + 1 + 1 + 1, 900), (ck + 1 + 1 + 1 + 1 + 1, 901), {}, 0⟩ ⟨h3, h4.mono (by omega), h2, fun q hq => h5 q (by omega), HOk.init, rfl, Nat.zero_le _, rfl⟩ ?_ (HpLe.refl _) ?_
    · simp (maxSteps := 400000) only [go_sem, ↓upXAbsY, ↓upXAbsZa, ↓upXOffC]
      try exact rfl
    · intro c b hck hI
      obtain ⟨S, y, ne, nc, h, i⟩ := b
      obtain ⟨hat, hly, hbox, hfree, hok, hev, hle, heq⟩ := hI
      have hat : HAt S y ne nc h := hat
      have hbox : y.box = (ck + 1 + 1 + 1, 10) := hbox
      have hev : h.events.length = i := hev
      have hle : i ≤ l.length := hle
      have hfree : ∀ q : Loc, c ≤ q.1 → S q = none := hfree
      have hly : HLayOk y ne nc c := hly
      have hok : HOk levelE h := hok
      have heq : replayL levelE {} l 0 = replayL levelE h (l.drop i) i := heq
      have hfz : ∀ o1 o2, frz 5 (updH (updH S (c + 1 + 1, 7) o1) (c + 1 + 1, 7) o2) (.ptr (ck + 1 + 1 + 1, 10) 0) = .cptr (encHist h) := fun o1 o2 => by
        rw [← hbox]
        exact frz_hist 2 (hat.upd fun q hq => by
          have hq : q.1 ≤ c := hq.elim (fun r => hly.lay.hi _ r) fun r => r.elim (fun r => r ▸ hly.ne_lo) fun r => r ▸ hly.nc_lo
          rw [updH_ne (by rintro rfl; have : c + 1 + 1 ≤ c := hq; omega), updH_ne (by rintro rfl; have : c + 1 + 1 ≤ c := hq; omega)])
      have g0 := fun d => hfree (c, d) (Nat.le_refl _)
      have g1 := fun d => hfree (c + 1, d) (by show c ≤ c + 1; omega)
      have g2 := fun d => hfree (c + 1 + 1, d) (by show c ≤ c + 1 + 1; omega)
      have g3 := fun d => hfree (c + 1 + 1 + 1, d) (by show c ≤ c + 1 + 1 + 1; omega)
      have hup : ∀ o1 o2, HAt (updH (updH S (c + 1 + 1, 7) o1) (c + 1 + 1, 7) o2) y ne nc h := fun o1 o2 => hat.upd fun q hq => by
        have hq : q.1 ≤ c := hq.elim (fun r => hly.lay.hi _ r) fun r => r.elim (fun r => r ▸ hly.ne_lo) fun r => r ▸ hly.nc_lo
        rw [updH_ne (by rintro rfl; have : c + 1 + 1 ≤ c := hq; omega), updH_ne (by rintro rfl; have : c + 1 + 1 ≤ c := hq; omega)]
      have hfu : ∀ o1 o2 (q : Loc), c + 1 + 1 < q.1 → updH (updH S (c + 1 + 1, 7) o1) (c + 1 + 1, 7) o2 q = none := fun o1 o2 q hq => by
        rw [updH_ne (by rintro rfl; exact Nat.lt_irrefl _ hq), updH_ne (by rintro rfl; exact Nat.lt_irrefl _ hq)]
        exact hfree q (by omega)
      have hfin : ∀ o1 o2 ck' (n : Nat) w, c + 1 + 1 ≤ ck' → (h, n, w) = replayed levelE l → Kn (.tup [.ptr (ck + 1 + 1 + 1, 10) 0, .int .i64 n, .int .i64 w]) (updH (updH S (c + 1 + 1, 7) o1) (c + 1 + 1, 7) o2) ck' := fun o1 o2 ck' n w hc hR => by
        have := hKn _ y ne nc ck' h n w hR (hup o1 o2) (hly.mono (by omega)) hok fun q hq => hfu o1 o2 q (by omega)
        rw [hbox] at this
        exact this
      generalize hq0 : exC _ _ _ _ _ = gg
      by_cases hlt : i < l.length
      · have hd : decide ((i : Int) < (l.length : Int)) = true := by simp; omega
        have he := hE _ (el_mem hlt)
        have hdr : l.drop i = el l i :: l.drop (i + 1) := by rw [el_get _ hlt]; exact List.drop_eq_getElem_cons hlt
        have hR0 : replayed levelE l = replayL levelE h (el l i :: l.drop (i + 1)) i := by unfold replayed; rw [if_neg c1, heq, hdr]
        by_cases w1 : eventE (el l i) = 0
        · have dw1 : decide (eventE (el l i) = 0) = true := decide_eq_true w1
          by_cases w2 : acceptE h (el l i) = 0
          · have dw2 : decide (acceptE h (el l i) = 0) = true := decide_eq_true w2
            rw [← hq0]
            clear hq0
            simp (maxSteps := 400000) only [go_sem, ↓upXAbsY, ↓upXAbsZa, ↓upXOffC, hd, g0, g1, g2, g3, Nat.zero_add, hfz, dw1, dw2, Bool.not_true, Bool.not_false, encEv, encStrs, encInts]
            refine ⟨⟨by omega, by omega⟩, ⟨el l i, rfl, he⟩, ⟨h, el l i, rfl, hok.pre (by omega), w1⟩, .inl fun hX2 => ?_⟩
            have key := fun o1 o2 ck0 (hc0 : c + 1 + 1 ≤ ck0) (Kn : V → Heap → Nat → Prop) => add_call (Kn := Kn) (ck := ck0) hX2 (hup o1 o2) (hly.mono (by omega)) (fun q hq => hfu o1 o2 q (by omega)) hok (by omega) w1 w2
            rw [hbox] at key
            refine key _ _ _ (by omega) _ fun H' y' nc' ck' hb' hc' hat2 hly2 hfr2 => ?_
            refine ⟨inK_of (by omega) (by omega), by omega, ⟨H', y', ne, nc', addE levelE h (el l i), i + 1⟩, ⟨hat2, hly2.mono (by omega), hb', fun q hq => hfr2 q (by omega), hok.add w1 w2, ?_, hlt, ?_⟩, by show l.length - (i + 1) < l.length - i; omega, rfl, HpLe.refl _⟩
            · show (addE levelE h (el l i)).events.length = i + 1
              rw [← hev]
              unfold addE
              split
              · show (h.events ++ [_]).length = _
                rw [List.length_append]; rfl
              · show (h.events ++ [_]).length = _
                rw [List.length_append]; rfl
            · show replayL levelE {} l 0 = replayL levelE (addE levelE h (el l i)) (l.drop (i + 1)) (i + 1)
              have hw : firstL [eventE (el l i), acceptE h (el l i)] = 0 := by simp [firstL, w1, w2]
              rw [heq, hdr, replayL]
              simp only [hw]
              rfl
          · have dw2 : decide (acceptE h (el l i) = 0) = false := decide_eq_false w2
            rw [← hq0]
            clear hq0
            simp (maxSteps := 400000) only [go_sem, ↓upXAbsY, ↓upXAbsZa, ↓upXOffC, hd, g0, g1, g2, g3, Nat.zero_add, hfz, dw1, dw2, Bool.not_true, Bool.not_false, encEv, encStrs, encInts]
            refine ⟨⟨by omega, by omega⟩, ⟨el l i, rfl, he⟩, ⟨h, el l i, rfl, hok.pre (by omega), w1⟩, inK_of (by omega) (by omega), _, fun x y q => q, ?_⟩
            simp (maxSteps := 400000) only [go_sem, ↓upXAbsY, ↓upXAbsZa, ↓upXOffC]
            refine ⟨_, _, _, fun k0 => fun x y q => q, hfin _ _ _ (i + 1) _ (by omega) ?_⟩
            have hw : firstL [eventE (el l i), acceptE h (el l i)] = acceptE h (el l i) := by simp [firstL, w1, w2]
            rw [hR0]
            unfold replayL
            simp only [hw]
            rw [if_pos w2]
        · have dw1 : decide (eventE (el l i) = 0) = false := decide_eq_false w1
          rw [← hq0]
          clear hq0
          simp (maxSteps := 400000) only [go_sem, ↓upXAbsY, ↓upXAbsZa, ↓upXOffC, hd, g0, g1, g2, g3, Nat.zero_add, hfz, dw1, Bool.not_true, Bool.not_false, encEv, encStrs, encInts]
          refine ⟨⟨by omega, by omega⟩, ⟨el l i, rfl, he⟩, inK_of (by omega) (by omega), _, fun x y q => q, ?_⟩
          simp (maxSteps := 400000) only [go_sem, ↓upXAbsY, ↓upXAbsZa, ↓upXOffC]
          refine ⟨_, _, _, fun k0 => fun x y q => q, hfin _ _ _ (i + 1) _ (by omega) ?_⟩
          have hw : firstL [eventE (el l i), acceptE h (el l i)] = eventE (el l i) := by simp [firstL, w1]
          rw [hR0]
          unfold replayL
          simp only [hw]
          rw [if_pos w1]
      · have hd : decide ((i : Int) < (l.length : Int)) = false := by simp; omega
        rw [← hq0]
        clear hq0
        simp (maxSteps := 400000) only [go_sem, ↓upXAbsY, ↓upXAbsZa, ↓upXOffC, hd]
        refine ⟨_, fun x y q => q, ?_⟩
        simp (maxSteps := 400000) only [go_sem, ↓upXAbsY, ↓upXAbsZa, ↓upXOffC]
        have hR : replayed levelE l = (h, 0, 0) := by
          unfold replayed
          rw [if_neg c1, heq, List.drop_eq_nil_of_le (by omega)]
          rfl
        have := hKn S y ne nc (c + 1 + 1) h 0 0 hR.symm hat (hly.mono (by omega)) hok fun q hq => hfree q (by omega)
        rw [hbox] at this
        exact ⟨_, _, _, fun k0 => fun x y q => q, this⟩
theorem oReplayed_ok : Holds Proofs.Tryz.prog G0 46 replC := by
  refine Holds.of_callT G0_ok (fun _ _ => rfl) fun k0 rl args hX hpu hpre => ?_
  obtain ⟨l, rfl, h1, h2⟩ := hpre
  refine replayed_call hX (fun _ _ => rfl) h1 h2 fun S y ne nc ck' h n w hR hat hly hok hfr => ?_
  show VEnt _ (.tup [.cptr (encHist (replayed levelE (decRows decEv (encRows 5 encEv l))).1), .int .i64 (replayed levelE (decRows decEv (encRows 5 encEv l))).2.1, .int .i64 (replayed levelE (decRows decEv (encRows 5 encEv l))).2.2])
  rw [dec_evs, ← hR, frz_tup]
  refine VEnt.of_eq ?_
  simp only [List.map_cons, List.map_nil, frz_hist 1 hat, frz_pu (.int _ _)]
end Go.Fly.Tryz
