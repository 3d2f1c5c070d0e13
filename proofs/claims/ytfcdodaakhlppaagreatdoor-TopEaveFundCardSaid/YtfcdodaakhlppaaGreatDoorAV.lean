/- Part of a proof: an evaluator of the model's code by abstract values, and plain laws for it. No conditions. -/
import Derived.Test.YtfcdodaakhlppaaGreatDoorAU
import Derived.Test.YtfcdodaakhlppaaGreatDoorAJ
import Derived.Test.YtfcdodaakhlppaaGreatDoorAI
import Derived.MapKept
import Derived.Test.YtfcdodaakhlppaaGreatDoorAG
set_option linter.unusedSimpArgs false
set_option linter.unusedVariables false
section
/- The fund of the office: what its journal results in. -/
namespace Go.Fly.Off
open Go
/-- One more event that is accepted. -/
theorem replayL_app {lv : Int → Int} : ∀ (l m : List Ev) (h h' : Hist) (i : Nat), replayL lv h l i = (h', 0, 0) → replayL lv h (l ++ m) i = replayL lv h' m (i + l.length)
  | [], m, h, h', i, q => by
    unfold replayL at q
    cases q
    rfl
  | e :: l, m, h, h', i, q => by
    unfold replayL at q
    simp only at q
    split at q
    · rename_i w; cases q
    · rename_i w
      have := replayL_app l m (addE lv h e) h' (i + 1) q
      rw [List.cons_append, replayL]
      rw [if_neg w, this, List.length_cons, show i + 1 + l.length = i + (l.length + 1) by omega]
theorem replayed_snoc {lv : Int → Int} {l : List Ev} {h : Hist} {e : Ev} (hl : l.length < 1000) (hr : replayed lv l = (h, 0, 0)) (ha : acceptsE lv l e = 0) : replayed lv (l ++ [e]) = (addE lv h e, 0, 0) := by
  unfold acceptsE at ha
  simp only [hr] at ha
  unfold replayed at hr ⊢
  rw [if_neg (by omega)] at hr
  rw [if_neg (by rw [List.length_append]; simp only [List.length_cons, List.length_nil]; omega), replayL_app l [e] {} h 0 hr]
  split at ha
  · rename_i w; exact absurd ha w
  · rename_i w
    have w := Classical.not_not.1 w
    rw [firstL_zero] at w
    have we := w (eventE e) (by simp)
    unfold replayL
    have hw : firstL [eventE e, acceptE h e] = 0 := by simp [firstL, we, ha]
    simp only [hw]
    rfl
theorem accepts_of {lv : Int → Int} {l : List Ev} {h : Hist} {e : Ev} (hl : l.length < 1000) (hr : replayed lv l = (h, 0, 0)) (he : eventE e = 0) : acceptsE lv l e = acceptE h e := by
  unfold acceptsE
  have d : decide (1000 ≤ l.length) = false := decide_eq_false (by omega)
  simp only [hr, he, d]
  rfl
/-- Words with a number behind them. -/
def hN (i : Nat) : Str := [104, UInt8.ofNat (48 + i)]
def oN (k : Nat) : Str := [111, UInt8.ofNat (48 + k)]
def sJet : Str := [106, 101, 116]
def fbase : List Ev := [⟨1, Kd.str .type, [sJet], [1, 100000000], []⟩, ⟨2, Kd.str .house, [hN 0], [1, 1000], []⟩, ⟨3, Kd.str .house, [hN 1], [1, 1000], []⟩, ⟨4, Kd.str .house, [hN 2], [1, 1000], []⟩,
  ⟨5, Kd.str .flight, [[102], sJet], [1, 5], []⟩, ⟨6, Kd.str .publish, [[109]], [1], []⟩]
def offEv (n : Nat) (k i : Nat) (a : Int) : Ev := ⟨(n : Int) + 1, Kd.str .offer, [oN k, hN i], [1, a], []⟩
def payEv (n : Nat) (k : Nat) : Ev := ⟨(n : Int) + 2, Kd.str .pay, [oN k], [1], []⟩
def fundEv (n : Nat) (a : Int) : Ev := ⟨(n : Int) + 1, Kd.str .fund, [], [1, a], []⟩
/-- The register of the fund's journal. -/
def fReg (offers : List Of) (fund : Int) : Reg := { day := 1, types := [⟨sJet, 100000000, 1000⟩], houses := [⟨hN 0, 1000⟩, ⟨hN 1, 1000⟩, ⟨hN 2, 1000⟩], flights := [⟨[102], sJet, 1, 5, -1⟩], maps := [⟨[109], 1, [70, 70, 70]⟩], offers := offers, complaints := [], fund := fund }
/-- What stands behind some rounds. -/
structure FInv (l : List Ev) (offers : List Of) (fund : Int) (k : Nat) : Prop where
  len : 6 ≤ l.length ∧ l.length ≤ 6 + 2 * k
  rep : replayed levelE l = (⟨l, l, fReg offers fund⟩, 0, 0)
  names : ∀ o ∈ offers, ∃ j, j < k ∧ o.name = oN j
  many : offers.length ≤ k
  paid : ∀ o ∈ offers, ∃ i, i < 3 ∧ o.house = hN i
  fund : 0 ≤ fund ∧ fund ≤ 65536 * k
theorem fbase_rep : replayed levelE fbase = (⟨fbase, fbase, fReg [] 0⟩, 0, 0) := by kernel_rfl
theorem FInv.init : FInv fbase [] 0 0 := ⟨⟨by decide, by decide⟩, fbase_rep, by simp, by simp, by simp, by omega⟩
theorem oN_name : ∀ k, k < 8 → nameB (oN k) = true := by decide
theorem hN_name : ∀ k, k < 3 → nameB (hN k) = true := by decide
theorem oN_inj : ∀ k, k < 8 → ∀ j, j < 8 → oN k = oN j → k = j := by decide
theorem hN_mem : ∀ i, i < 3 → hN i ∈ [hN 0, hN 1, hN 2] := by decide
theorem hN_loud : ∀ i, i < 3 → ([70, 70, 70] : List Int)[place [hN 0, hN 1, hN 2] (hN i)]? = some 70 := by decide
theorem kindOf_str : ∀ k, kindOf (Kd.str k) = some k := by intro k; cases k <;> decide
theorem fEv_ok {n : Nat} {a : Int} (hn : n < 900) (ha : 1 ≤ a ∧ a ≤ 65536) : eventE (fundEv n a) = 0 := by
  have h1 : rng ((n : Int) + 1) 1 1000 = 0 := rng_zero.2 (by omega)
  have h2 : rng a 0 999999999 = 0 := rng_zero.2 (by omega)
  have h3 : rng 1 0 999999999 = 0 := by decide
  unfold eventE fundEv
  simp only [kindOf_str]
  simp [firstL, h1, h2, h3, err, Kd.letters, Kd.values]
theorem oEv_ok {n k i : Nat} {a : Int} (hn : n < 900) (hk : k < 8) (hi : i < 3) (ha : 1 ≤ a ∧ a ≤ 65536) : eventE (offEv n k i a) = 0 := by
  have h1 : rng ((n : Int) + 1) 1 1000 = 0 := rng_zero.2 (by omega)
  have h2 : rng a 0 999999999 = 0 := rng_zero.2 (by omega)
  have h3 : rng 1 0 999999999 = 0 := by decide
  have h4 := oN_name k hk
  have h5 := hN_name i hi
  unfold eventE offEv
  simp only [kindOf_str]
  simp [firstL, h1, h2, h3, h4, h5, err, Kd.letters, Kd.values]
theorem pEv_ok {n k : Nat} (hn : n < 900) (hk : k < 8) : eventE (payEv n k) = 0 := by
  have h1 : rng ((n : Int) + 2) 1 1000 = 0 := rng_zero.2 (by omega)
  have h3 : rng 1 0 999999999 = 0 := by decide
  have h4 := oN_name k hk
  unfold eventE payEv
  simp only [kindOf_str]
  simp [firstL, h1, h3, h4, err, Kd.letters, Kd.values]
theorem FInv.l900 {l : List Ev} {offers : List Of} {fund : Int} {k : Nat} (h : FInv l offers fund k) (hk : k ≤ 8) : l.length < 900 := by have := h.len; omega
/-- A fund event is accepted. -/
theorem FInv.in_ok {l : List Ev} {offers : List Of} {fund : Int} {k : Nat} (h : FInv l offers fund k) (hk : k < 8) {a : Int} (ha : 1 ≤ a ∧ a ≤ 65536) :
    acceptsE levelE l (fundEv l.length a) = 0 ∧ FInv (l ++ [fundEv l.length a]) offers (fund + a) (k + 1) := by
  have hl := h.l900 (by omega)
  have hf := h.fund
  have hz : acceptsE levelE l (fundEv l.length a) = 0 := by
    rw [accepts_of (by omega) h.rep (fEv_ok hl ha)]
    unfold acceptE fundEv
    simp only [kindOf_str]
    have h1 : rng a 1 100000000 = 0 := rng_zero.2 (by omega)
    have h2 : ¬ 1000000000000 - a < fund := by omega
    simp [Ev.vl, el, fReg, knownE, knownL, Kd.letters, checkK, firstL, h1, h2, err]
  refine ⟨hz, ?_, ?_, fun o ho => ?_, by have := h.many; omega, h.paid, ?_⟩
  · rw [List.length_append]; have := h.len; simp only [List.length_cons, List.length_nil]; omega
  · rw [replayed_snoc (by omega) h.rep hz]
    unfold addE
    rw [if_neg (by unfold fundEv; rw [kindOf_str]; decide)]
    unfold applyE
    simp only [fundEv, kindOf_str]
    rfl
  · obtain ⟨j, hj, q⟩ := h.names o ho
    exact ⟨j, by omega, q⟩
  · omega
theorem fReg_day (o : List Of) (f : Int) : (fReg o f).day = 1 := rfl
theorem known_off {offers : List Of} {fund : Int} {n k i : Nat} {a : Int} (hk : k < 8) (hi : i < 3) (hn : ∀ o ∈ offers, ∃ j, j < k ∧ o.name = oN j) : knownE (fReg offers fund) (offEv n k i a) .offer = 0 := by
  have h1 : oN k ∉ offers.map (·.name) := fun q => by
    obtain ⟨o, ho, e⟩ := List.mem_map.1 q
    obtain ⟨j, hj, e2⟩ := hn o ho
    have := oN_inj k hk j (by omega) (by rw [← e, e2])
    omega
  have h2 := hN_mem i hi
  unfold knownE knownL
  have a0 : freshAt (Kd.letters .offer) 0 = true := by decide
  have a1 : freshAt (Kd.letters .offer) 1 = false := by decide
  have t0 : thereAt (fReg offers fund) (offEv n k i a) (Kd.letters .offer) 0 = false := by
    unfold thereAt
    exact decide_eq_false (by show ¬ oN k ∈ offers.map (·.name); exact h1)
  have t1 : thereAt (fReg offers fund) (offEv n k i a) (Kd.letters .offer) 1 = true := by
    unfold thereAt
    exact decide_eq_true (by show hN i ∈ [hN 0, hN 1, hN 2]; exact h2)
  have hr : List.range (Kd.letters .offer).length = [0, 1] := by decide
  rw [hr]
  simp [a0, a1, t0, t1]
theorem loud_ok {offers : List Of} {fund : Int} {i : Nat} (hi : i < 3) : (fReg offers fund).isLoud (hN i) = true := by
  have := hN_loud i hi
  unfold Reg.isLoud Reg.listed
  have h2 : (fReg offers fund).maps.getLast? = some ⟨[109], 1, [70, 70, 70]⟩ := rfl
  have h3 : (fReg offers fund).namesOf 104 = [hN 0, hN 1, hN 2] := rfl
  rw [h2, h3]
  simp only [this]
  rfl
theorem FInv.off_at {l : List Ev} {offers : List Of} {fund : Int} {k : Nat} (h : FInv l offers fund k) (hk : k < 8) {i : Nat} (hi : i < 3) {a : Int} (ha : 1 ≤ a ∧ a ≤ 65536) :
    acceptsE levelE l (offEv l.length k i a) = if offers.any (fun x => decide (x.house = hN i)) = true then 31 else 0 := by
  have hl := h.l900 (by omega)
  rw [accepts_of (by omega) h.rep (oEv_ok hl hk hi ha)]
  have hkn := known_off (fund := fund) (n := l.length) (a := a) hk hi h.names
  have h1 : rng a 1 100000000 = 0 := rng_zero.2 (by omega)
  have hm := h.many
  have h32 : ¬ offers.length = 32 := by omega
  have hld := loud_ok (offers := offers) (fund := fund) hi
  have e1 : (offEv l.length k i a).num = (l.length : Int) + 1 := rfl
  have e2 : (offEv l.length k i a).vl 0 = 1 := rfl
  have e3 : (offEv l.length k i a).vl 1 = a := rfl
  have e4 : (offEv l.length k i a).nm 1 = hN i := rfl
  have e5 : kindOf (offEv l.length k i a).kind = some .offer := kindOf_str .offer
  unfold acceptE
  rw [e5, e1]
  simp only [e2, fReg_day, hkn]
  have e6 : ∀ hh : List Ev, ¬ ((l.length : Int) + 1 ≠ ((Hist.mk l l (fReg offers fund)).events.length : Int) + 1) := fun _ => by simp
  rw [if_neg (e6 []), if_neg (by decide), if_neg (by simp)]
  unfold checkK
  simp only [e3, e4, h1, hld]
  have e7 : (fReg offers fund).maps.length = 1 := rfl
  have e8 : (fReg offers fund).hasOffer (hN i) = offers.any (fun x => decide (x.house = hN i)) := rfl
  have e9 : (fReg offers fund).offers.length = offers.length := rfl
  rw [e7, e8, e9]
  simp only [h32]
  cases offers.any (fun x => decide (x.house = hN i)) <;> simp [firstL, err]
/-- The journal with an offer. -/
theorem FInv.off_rep {l : List Ev} {offers : List Of} {fund : Int} {k : Nat} (h : FInv l offers fund k) (hk : k < 8) {i : Nat} (hi : i < 3) {a : Int} (ha : 1 ≤ a ∧ a ≤ 65536) (hno : offers.any (fun x => decide (x.house = hN i)) = false) :
    replayed levelE (l ++ [offEv l.length k i a]) = (⟨l ++ [offEv l.length k i a], l ++ [offEv l.length k i a], fReg (offers ++ [⟨oN k, hN i, a, false⟩]) fund⟩, 0, 0) := by
  have hl := h.l900 (by omega)
  rw [replayed_snoc (by omega) h.rep (by rw [h.off_at hk hi ha, hno]; rfl)]
  unfold addE
  rw [if_neg (by unfold offEv; rw [kindOf_str]; decide)]
  unfold applyE
  simp only [offEv, kindOf_str]
  rfl
theorem place_last {l : List Str} {s : Str} (h : s ∉ l) : place (l ++ [s]) s = l.length := by
  refine place_of (by rw [List.length_append]; simp) (el_snoc rfl) fun j hj => ?_
  rw [el_snoc_lt hj, el_get _ hj]
  exact fun q => h (q ▸ List.getElem_mem hj)
theorem modify_last {α : Type} {l : List α} {x : α} {f : α → α} : (l ++ [x]).modify l.length f = l ++ [f x] := by
  induction l with
  | nil => rfl
  | cons y l ih => simp [List.modify_succ_cons, ih]
theorem FInv.pay_at {l : List Ev} {offers : List Of} {fund : Int} {k : Nat} (h : FInv l offers fund k) (hk : k < 8) {i : Nat} (hi : i < 3) {a : Int} (ha : 1 ≤ a ∧ a ≤ 65536) (hno : offers.any (fun x => decide (x.house = hN i)) = false) :
    acceptsE levelE (l ++ [offEv l.length k i a]) (payEv l.length k) = if fund < a then 16 else 0 := by
  have hl := h.l900 (by omega)
  rw [accepts_of (by rw [List.length_append]; simp only [List.length_cons, List.length_nil]; omega) (h.off_rep hk hi ha hno) (pEv_ok hl hk)]
  have hnm : oN k ∉ offers.map (·.name) := fun q => by
    obtain ⟨o, ho, e⟩ := List.mem_map.1 q
    obtain ⟨j, hj, e2⟩ := h.names o ho
    have := oN_inj k hk j (by omega) (by rw [← e, e2])
    omega
  have hns : (fReg (offers ++ [⟨oN k, hN i, a, false⟩]) fund).namesOf 111 = offers.map (·.name) ++ [oN k] := by
    show (offers ++ [_]).map _ = _
    rw [List.map_append]; rfl
  have hof : (fReg (offers ++ [⟨oN k, hN i, a, false⟩]) fund).offer (oN k) = ⟨oN k, hN i, a, false⟩ := by
    unfold Reg.offer
    rw [hns, place_last hnm, List.length_map]
    exact el_snoc rfl
  have e1 : (payEv l.length k).num = (l.length : Int) + 2 := rfl
  have e2 : (payEv l.length k).vl 0 = 1 := rfl
  have e4 : (payEv l.length k).nm 0 = oN k := rfl
  have e5 : kindOf (payEv l.length k).kind = some .pay := kindOf_str .pay
  have hkn : knownE (fReg (offers ++ [⟨oN k, hN i, a, false⟩]) fund) (payEv l.length k) .pay = 0 := by
    unfold knownE knownL
    have a0 : freshAt (Kd.letters .pay) 0 = false := by decide
    have t0 : thereAt (fReg (offers ++ [⟨oN k, hN i, a, false⟩]) fund) (payEv l.length k) (Kd.letters .pay) 0 = true := by
      unfold thereAt
      refine decide_eq_true ?_
      show oN k ∈ (fReg (offers ++ [⟨oN k, hN i, a, false⟩]) fund).namesOf 111
      rw [hns]
      simp
    have hr : List.range (Kd.letters .pay).length = [0] := by decide
    rw [hr]
    simp [a0, t0]
  unfold acceptE
  rw [e5, e1]
  simp only [e2, fReg_day, hkn]
  rw [if_neg (by rw [List.length_append]; simp only [List.length_cons, List.length_nil]; omega), if_neg (by decide), if_neg (by simp)]
  unfold checkK
  simp only [e4, hof]
  have e9 : (fReg (offers ++ [⟨oN k, hN i, a, false⟩]) fund).fund = fund := rfl
  rw [e9]
  by_cases q : fund < a <;> simp [firstL, err, q]
theorem FInv.pay_ok {l : List Ev} {offers : List Of} {fund : Int} {k : Nat} (h : FInv l offers fund k) (hk : k < 8) {i : Nat} (hi : i < 3) {a : Int} (ha : 1 ≤ a ∧ a ≤ 65536) (hno : offers.any (fun x => decide (x.house = hN i)) = false) (hfa : ¬ fund < a) :
    FInv (l ++ [offEv l.length k i a] ++ [payEv l.length k]) (offers ++ [⟨oN k, hN i, a, true⟩]) (fund - a) (k + 1) := by
  have hl := h.l900 (by omega)
  have hf := h.fund
  have hnm : oN k ∉ offers.map (·.name) := fun q => by
    obtain ⟨o, ho, e⟩ := List.mem_map.1 q
    obtain ⟨j, hj, e2⟩ := h.names o ho
    have := oN_inj k hk j (by omega) (by rw [← e, e2])
    omega
  have hns : (fReg (offers ++ [⟨oN k, hN i, a, false⟩]) fund).namesOf 111 = offers.map (·.name) ++ [oN k] := by
    show (offers ++ [_]).map _ = _
    rw [List.map_append]; rfl
  have hof : (fReg (offers ++ [⟨oN k, hN i, a, false⟩]) fund).offer (oN k) = ⟨oN k, hN i, a, false⟩ := by
    unfold Reg.offer
    rw [hns, place_last hnm, List.length_map]
    exact el_snoc rfl
  refine ⟨?_, ?_, fun o ho => ?_, ?_, fun o ho => ?_, by omega⟩
  · have := h.len
    simp only [List.length_append, List.length_cons, List.length_nil]; omega
  · rw [replayed_snoc (by rw [List.length_append]; simp only [List.length_cons, List.length_nil]; omega) (h.off_rep hk hi ha hno) (by rw [h.pay_at hk hi ha hno, if_neg hfa])]
    unfold addE
    rw [if_neg (by unfold payEv; rw [kindOf_str]; decide)]
    have e4 : (payEv l.length k).nm 0 = oN k := rfl
    have e2 : (payEv l.length k).vl 0 = 1 := rfl
    have : applyE levelE (fReg (offers ++ [⟨oN k, hN i, a, false⟩]) fund) (payEv l.length k) = fReg (offers ++ [⟨oN k, hN i, a, true⟩]) (fund - a) := by
      unfold applyE
      simp only [show kindOf (payEv l.length k).kind = some .pay from kindOf_str .pay]
      unfold applyK
      simp only [e4, e2, hof, hns, place_last hnm, List.length_map]
      have : (fReg (offers ++ [⟨oN k, hN i, a, false⟩]) fund).offers = offers ++ [⟨oN k, hN i, a, false⟩] := rfl
      rw [this, modify_last]
      rfl
    simp only [this]
  · rcases List.mem_append.1 ho with q | q
    · obtain ⟨j, hj, e⟩ := h.names o q
      exact ⟨j, by omega, e⟩
    · rw [List.mem_singleton.1 q]; exact ⟨k, by omega, rfl⟩
  · rw [List.length_append]; have := h.many; simp only [List.length_cons, List.length_nil]; omega
  · rcases List.mem_append.1 ho with q | q
    · exact h.paid o q
    · rw [List.mem_singleton.1 q]; exact ⟨i, hi, rfl⟩
end Go.Fly.Off
end
section
/- Contracts of the verifier's functions. -/
namespace Go.Fly
open Go

def loudC : Contract := fun _ args =>
  match args with
  | [] => ⟨True, .bool true, none⟩
  | _ => ⟨False, .top, none⟩
attribute [go_sem] loudC
end Go.Fly
end
section
/- Bounds of steps and transmittances. -/
namespace Go.Fly
open Go

theorem cell_fn0 {k k2 : IntKind} {f g : Nat → Int} {i : Nat} : cell (fun i => [V.int k (f i), V.int k2 (g i)]) i 0 = f i := rfl
theorem cell_fn1 {k k2 : IntKind} {f g : Nat → Int} {i : Nat} : cell (fun i => [V.int k (f i), V.int k2 (g i)]) i 1 = g i := rfl
theorem cast3 : ((3 : Nat) : Int) = 3 := rfl
attribute [go_sem] cell_fn0 cell_fn1 cast3
end Go.Fly
end
section
/- A path and its way back; what fits. -/
namespace Go.Fly
open Go

theorem PathOk.back {a b c d e f : Int} (h : PathOk a b c d e f) : PathOk d e f a b c := ⟨h.2.1, h.1, fun q => h.2.2 ⟨q.1.symm, q.2.1.symm, q.2.2.symm⟩⟩
end Go.Fly
end
section
/- Walls: what screens; lengths; tables. -/
namespace Go.Fly
open Go

/-- The name of a wall. -/
def wName (get : Nat → List V) (i : Nat) : List UInt8 := match (get i)[0]? with | some (V.str s) => s | _ => []
def IsWalls (n : Nat) (get : Nat → List V) : Prop := n ≤ 9223372036854775807 ∧ ∀ i, i < n →
  get i = [.str (wName get i), .int .i64 (cell get i 1), .int .i64 (cell get i 2), .int .i64 (cell get i 3), .int .i64 (cell get i 4), .int .i64 (cell get i 5), .int .i64 (cell get i 6)] ∧ (wName get i).length ≤ 9223372036854775807
theorem IsWalls.pu {n : Nat} {get : Nat → List V} (h : IsWalls n get) : Pu (.sl n 7 get) := pu_sl.2 fun i hi v hv => by
  rw [(h.2 i hi).1] at hv
  simp only [List.mem_cons, List.not_mem_nil, or_false] at hv
  rcases hv with rfl | rfl | rfl | rfl | rfl | rfl | rfl <;> first | exact .int _ _ | exact .str _

/-! ### There and back -/

/-! ### Tables -/

structure TabOk2 (n : Nat) (get : Nat → List V) : Prop where
  cnt : 0 < n ∧ n ≤ 16
  from_ : ∀ i, i < n → 1 ≤ cell get i 0 ∧ cell get i 0 ≤ 1000000
  fac : ∀ i, i < n → 0 ≤ cell get i 1 ∧ cell get i 1 ≤ 1000
  up : ∀ i, i + 1 < n → cell get i 0 < cell get (i + 1) 0
  down : ∀ i, i + 1 < n → cell get (i + 1) 1 ≤ cell get i 1
end Go.Fly
end
section
/- A receiver that is twice as far away; layers that let less pass; energies that are halved. -/
namespace Go.Fly
open Go

/-! ### Roots -/

/-! ### Steps -/

/-! ### What passes -/

/-! ### Layers that let less pass -/

/-! ### What is heard -/

end Go.Fly
end
section
/- Contracts of the law on what is farther; airs that let less pass, types that are quieter. -/
namespace Go.Fly
open Go

/-! ### Lists of lists that are being made -/

structure NA where
  i : Nat
  nu : Nat → Loc
  H : Heap
/-- What is kept: the outer list, at L, of the rows so far; the inner ones; what lay before. -/
structure NInv (L : Loc) (sz : Nat) (row : (Nat → Loc) → Nat → List V) (szI : Nat) (m : Nat → Nat) (g : Nat → Nat → List V) (base : Heap) (cb n ck : Nat) (b : NA) : Prop where
  le : b.i ≤ n
  outer : b.H L = some (.arr b.i sz (row b.nu))
  inner : ∀ j, j < b.i → b.H (b.nu j) = some (.arr (m j) szI (g j))
  lo : ∀ j, j < b.i → cb < (b.nu j).1
  hi : ∀ j, j < b.i → (b.nu j).1 < ck
  ne : ∀ j, j < b.i → b.nu j ≠ L
  inj : ∀ j k, j < b.i → k < b.i → b.nu j = b.nu k → j = k
  base : ∀ l, l.1 ≤ cb → b.H l = base l
  free : ∀ l, ck ≤ l.1 → b.H l = none

theorem NInv.mono {L : Loc} {sz : Nat} {row : (Nat → Loc) → Nat → List V} {szI : Nat} {m : Nat → Nat} {g : Nat → Nat → List V} {base : Heap} {cb n ck ck' : Nat} {b : NA} (h : NInv L sz row szI m g base cb n ck b) (hc : ck ≤ ck') : NInv L sz row szI m g base cb n ck' b :=
  ⟨h.le, h.outer, h.inner, h.lo, fun j hj => Nat.lt_of_lt_of_le (h.hi j hj) hc, h.ne, h.inj, h.base, fun l hl => h.free l (Nat.le_trans hc hl)⟩
/-- Before the first row. -/
theorem NInv.start {L : Loc} {sz : Nat} {row : (Nat → Loc) → Nat → List V} {szI : Nat} {m : Nat → Nat} {g : Nat → Nat → List V} {base : Heap} {cb n ck : Nat} {nu : Nat → Loc} (hL : cb < L.1) (hL2 : L.1 < ck) (hf : ∀ l, cb < l.1 → base l = none) :
    NInv L sz row szI m g base cb n ck ⟨0, nu, updH base L (.arr 0 sz (row nu))⟩ := by
  refine ⟨Nat.zero_le _, updH_same _ _ _, fun j hj => absurd hj (Nat.not_lt_zero _), fun j hj => absurd hj (Nat.not_lt_zero _), fun j hj => absurd hj (Nat.not_lt_zero _), fun j hj => absurd hj (Nat.not_lt_zero _), fun j k hj => absurd hj (Nat.not_lt_zero _), fun l hl => ?_, fun l hl => ?_⟩
  · show updH _ _ _ l = _
    rw [updH_ne (by rintro rfl; omega)]
  · show updH _ _ _ l = _
    rw [updH_ne (by rintro rfl; omega)]
    exact hf l (by omega)
/-- Another object of the call's own changes. -/
theorem NInv.box {L : Loc} {sz : Nat} {row : (Nat → Loc) → Nat → List V} {szI : Nat} {m : Nat → Nat} {g : Nat → Nat → List V} {base : Heap} {cb n ck : Nat} {b : NA} (h : NInv L sz row szI m g base cb n ck b) {l0 : Loc} {o : AObj}
    (h1 : cb < l0.1) (h2 : l0.1 < ck) (h3 : L ≠ l0) (h4 : ∀ j, j < b.i → b.nu j ≠ l0) : NInv L sz row szI m g base cb n ck ⟨b.i, b.nu, updH b.H l0 o⟩ := by
  refine ⟨h.le, ?_, fun j hj => ?_, h.lo, h.hi, h.ne, h.inj, fun l hl => ?_, fun l hl => ?_⟩
  · show updH _ _ _ L = _
    rw [updH_ne h3]
    exact h.outer
  · show updH _ _ _ (b.nu j) = _
    rw [updH_ne (h4 j hj)]
    exact h.inner j hj
  · show updH _ _ _ l = _
    rw [updH_ne (by rintro rfl; omega)]
    exact h.base l hl
  · show updH _ _ _ l = _
    rw [updH_ne (by rintro rfl; omega)]
    exact h.free l hl
def updN (nu : Nat → Loc) (i : Nat) (l : Loc) : Nat → Loc := fun j => if j = i then l else nu j
theorem updN_same {nu : Nat → Loc} {i : Nat} {l : Loc} : updN nu i l i = l := if_pos rfl
theorem updN_ne {nu : Nat → Loc} {i j : Nat} {l : Loc} (h : j ≠ i) : updN nu i l j = nu j := if_neg h
/-- One row more. -/
theorem NInv.snoc {L : Loc} {sz : Nat} {row : (Nat → Loc) → Nat → List V} {szI : Nat} {m : Nat → Nat} {g : Nat → Nat → List V} {base : Heap} {cb n ck ck' : Nat} {b : NA} (h : NInv L sz row szI m g base cb n ck b) {l : Loc}
    (hin : b.i < n) (hl : ck ≤ l.1) (hl2 : l.1 < ck') (hL : cb < L.1) (hL2 : L.1 < ck) (hrow : ∀ nu nu' j, nu j = nu' j → row nu j = row nu' j) :
    NInv L sz row szI m g base cb n ck' ⟨b.i + 1, updN b.nu b.i l, updH (updH b.H l (.arr (m b.i) szI (g b.i))) L (.arr (b.i + 1) sz (row (updN b.nu b.i l)))⟩ := by
  have hcb : cb < l.1 := by omega
  have hlL : l ≠ L := fun e => by subst e; omega
  have hnl : ∀ j, j < b.i → b.nu j ≠ l := fun j hj e => by have := h.hi j hj; rw [e] at this; omega
  have key : ∀ j, j < b.i + 1 → (j < b.i ∧ updN b.nu b.i l j = b.nu j) ∨ (j = b.i ∧ updN b.nu b.i l j = l) := fun j hj => by
    by_cases e : j = b.i
    · exact .inr ⟨e, by subst e; exact updN_same⟩
    · exact .inl ⟨by omega, updN_ne e⟩
  refine ⟨Nat.succ_le_of_lt hin, updH_same _ _ _, fun j hj => ?_, fun j hj => ?_, fun j hj => ?_, fun j hj => ?_, fun j k hj hk e => ?_, fun l' hl' => ?_, fun l' hl' => ?_⟩
  · rcases key j hj with ⟨h1, h2⟩ | ⟨rfl, h2⟩
    · show updH _ _ _ (updN b.nu b.i l j) = _
      rw [h2, updH_ne (h.ne j h1), updH_ne (hnl j h1)]
      exact h.inner j h1
    · show updH _ _ _ (updN b.nu b.i l b.i) = _
      rw [h2, updH_ne hlL, updH_same]
  · show cb < (updN b.nu b.i l j).1
    rcases key j hj with ⟨h1, h2⟩ | ⟨rfl, h2⟩ <;> rw [h2]
    · exact h.lo j h1
    · exact hcb
  · show (updN b.nu b.i l j).1 < ck'
    rcases key j hj with ⟨h1, h2⟩ | ⟨rfl, h2⟩ <;> rw [h2]
    · have := h.hi j h1; omega
    · exact hl2
  · show updN b.nu b.i l j ≠ L
    rcases key j hj with ⟨h1, h2⟩ | ⟨rfl, h2⟩ <;> rw [h2]
    · exact h.ne j h1
    · exact hlL
  · have e' : updN b.nu b.i l j = updN b.nu b.i l k := e
    rcases key j hj with ⟨h1, h2⟩ | ⟨rfl, h2⟩ <;> rcases key k hk with ⟨h3, h4⟩ | ⟨rfl, h4⟩ <;> first | rw [h2, h4] at e' | skip
    · exact h.inj j k h1 h3 e'
    · exact absurd e' (hnl j h1)
    · exact absurd e'.symm (hnl k h3)
    · rfl
  · show updH _ _ _ l' = _
    rw [updH_ne (by rintro rfl; omega), updH_ne (by rintro rfl; omega)]
    exact h.base l' hl'
  · show updH _ _ _ l' = _
    rw [updH_ne (by rintro rfl; omega), updH_ne (by rintro rfl; omega)]
    exact h.free l' (by omega)

/-! ### Lists of lists that are written, and read out -/

theorem frzLe.refl {hp : Heap} : ∀ {l : List V}, frzLe hp l l
  | [] => trivial
  | _ :: l => ⟨.inr (.inl rfl), frzLe.refl (l := l)⟩
theorem frzLe.set {hp : Heap} {u v' : V} : ∀ {l l' : List V} {d : Nat}, frzLe hp l l' → l[d]? = some u → VEnt (frz 5 hp u) v' → frzLe hp l (l'.set d v')
  | [], [], d, h, hd, _ => by simp at hd
  | v :: l, w :: l', 0, h, hd, hv => by
    simp only [List.getElem?_cons_zero, Option.some.injEq] at hd
    subst hd
    exact ⟨.inr (.inr hv), h.2⟩
  | v :: l, w :: l', d + 1, h, hd, hv => ⟨h.1, frzLe.set h.2 (by simpa using hd) hv⟩
  | [], _ :: _, _, h, _, _ => h.elim
  | _ :: _, [], _, h, _, _ => h.elim

theorem HpLe.same {hp : Heap} {l : Loc} {a b : AObj} (h : ObjLe a b) : HpLe (updH hp l a) (updH hp l b) := by
  intro l' o' h'
  by_cases e : l' = l
  · subst e
    rw [updH_same] at h' ⊢
    cases h'
    exact ⟨a, rfl, h⟩
  · rw [updH_ne e] at h' ⊢
    exact ⟨o', h', ObjLe.refl _⟩
end Go.Fly
end
section
/- Contracts of walls, tables and what they screen. -/
namespace Go.Fly
open Go

/-- A valid wall. -/
structure WallOk (nm : List UInt8) (ax ay bx ky h ec : Int) : Prop where
  name : nameB nm = true
  p1 : -1000 ≤ ax ∧ ax ≤ 1000
  p2 : -1000 ≤ ay ∧ ay ≤ 1000
  p3 : -1000 ≤ bx ∧ bx ≤ 1000
  p4 : -1000 ≤ ky ∧ ky ≤ 1000
  two : ¬ (ax = bx ∧ ay = ky)
  high : 1 ≤ h ∧ h ≤ 1000
  echo : 0 ≤ ec ∧ ec ≤ 1000
structure WallsOk (n : Nat) (get : Nat → List V) : Prop where
  cnt : n ≤ 32
  wall : ∀ i, i < n → WallOk (wName get i) (cell get i 1) (cell get i 2) (cell get i 3) (cell get i 4) (cell get i 5) (cell get i 6)
  two : ∀ i k, i < n → k < i → wName get k ≠ wName get i

/-! ### Contracts -/

end Go.Fly
end
section
/- Bounds of sides, lengths and depths. -/
namespace Go.Fly
open Go

end Go.Fly
end
section
/- More contracts of walls. -/
namespace Go.Fly
open Go
/-- A key that no entry has. -/
theorem findNow_none {s : List UInt8} {l : List MapEntry} (h : ∀ e ∈ l, ∃ s', e.key = .string ⟨s'.toArray⟩ ∧ s' ≠ s) (i : Nat) : Instr.findNow .string (.string ⟨s.toArray⟩) l i = some none := by
  rcases MapKept.findNow_spec (d := .string) (k := .string ⟨s.toArray⟩) trivial l i (fun x hx => by obtain ⟨s', e, _⟩ := h x hx; rw [e]; trivial) with ⟨h1, _⟩ | ⟨j, e, _, h2, h3⟩
  · exact h1
  · obtain ⟨s', e', hne⟩ := h e (List.mem_of_getElem? h2)
    rw [e'] at h3
    exact absurd (by simpa using h3) hne
end Go.Fly
end
section
/- The fund of the office: the balance of entries, and that it is the fund. -/
namespace Go.Fly.Off
open Go
structure BE where
  in_ : Bool
  home : Str
  amount : Int
deriving Inhabited, DecidableEq
def encBE (x : BE) : List V := [.bool x.in_, .str x.home, .int .i64 x.amount]
def decBE : List V → BE | [a, b, c] => ⟨boolOf a, strOf b, intOf c⟩ | _ => default
theorem dec_be (x : BE) : decBE (encBE x) = x := rfl
theorem decBE_3 {a b c : V} : decBE [a, b, c] = ⟨boolOf a, strOf b, intOf c⟩ := rfl
theorem eta_be (x : BE) : BE.mk x.in_ x.home x.amount = x := rfl
theorem ones_be (x : BE) : Ones (encBE x) := ones_cons (.bool _) rfl (ones_cons (.str _) rfl (ones_cons (.int _ _) rfl ones_nil))
theorem pu_bes (l : List BE) : Pu (encRows 3 encBE l) ↔ True := iff_true_intro (pu_rows (fun x => (ones_be x).pu) l)
theorem dec_bes (l : List BE) : decRows decBE (encRows 3 encBE l) = l := dec_rows 3 encBE decBE dec_be l
theorem dec_besU (l : List BE) : decRows decBE (.sl l.length 3 fun i => [.bool (el l i).in_, .str (el l i).home, .int .i64 (el l i).amount]) = l := dec_bes l
theorem dec_besV (l : List BE) : decRows decBE (.sl l.length 3 fun i => encBE (el l i)) = l := dec_bes l
theorem pu_besV (l : List BE) : Pu (.sl l.length 3 fun i => encBE (el l i)) ↔ True := pu_bes l
theorem pu_besU (l : List BE) : Pu (.sl l.length 3 fun i => [.bool (el l i).in_, .str (el l i).home, .int .i64 (el l i).amount]) ↔ True := pu_bes l
attribute [go_sem] dec_be decBE_3 eta_be pu_bes dec_bes dec_besU dec_besV pu_besV pu_besU
/-- Why an entry is wrong behind others. -/
def beE (b : Int) (p : List Str) (x : BE) : Int :=
  firstL [rng x.amount 1 100000000, err (x.in_ && decide (x.home ≠ [])) 1, err (!x.in_ && !nameB x.home) 8, err (!x.in_ && decide (x.home ∈ p)) 9, err (!x.in_ && decide (b < x.amount)) 23]
def balL : List BE → Int → List Str → Int × Int
  | [], b, _ => (b, 0)
  | x :: l, b, p => if beE b p x ≠ 0 then (0, beE b p x) else if x.in_ = true then balL l (b + x.amount) p else balL l (b - x.amount) (x.home :: p)
def balE (l : List BE) : Int × Int := if 64 < l.length then (0, 5) else balL l 0 []
def balC : Contract := fun _ args => ⟨∃ l, args = [encRows 3 encBE l] ∧ l.length ≤ 1000000 ∧ ∀ x ∈ l, x.home.length ≤ 1000000, .tup [.int .i64 (balE (decRows decBE (arg args 0))).1, .int .i64 (balE (decRows decBE (arg args 0))).2], none⟩
attribute [go_sem] balC
theorem beE_in {b : Int} {p : List Str} {xh : Str} {xa : Int} : firstL [rng xa 1 100000000, err (!(true == true && decide (xh = []))) 1, err false 8, err false 9, err false 23] = beE b p ⟨true, xh, xa⟩ := by
  unfold beE
  by_cases h : xh = [] <;> simp [h]
theorem beE_out {b : Int} {p : List Str} {xh : Str} {xa : Int} : firstL [rng xa 1 100000000, err false 1, err (!nameB xh) 8, err (decide (xh ∈ p)) 9, err (decide (b < xa)) 23] = beE b p ⟨false, xh, xa⟩ := by
  unfold beE
  simp
theorem balL_err {l : List BE} {x : BE} {b : Int} {p : List Str} (h : beE b p x ≠ 0) : balL (x :: l) b p = (0, beE b p x) := by
  unfold balL
  rw [if_pos h]
theorem balL_in {l : List BE} {x : BE} {b : Int} {p : List Str} (h : beE b p x = 0) (hi : x.in_ = true) : balL (x :: l) b p = balL l (b + x.amount) p := by
  unfold balL
  rw [if_neg (fun q => q h), if_pos hi]
  cases l <;> rfl
theorem balL_out {l : List BE} {x : BE} {b : Int} {p : List Str} (h : beE b p x = 0) (hi : x.in_ = false) : balL (x :: l) b p = balL l (b - x.amount) (x.home :: p) := by
  unfold balL
  rw [if_neg (fun q => q h), if_neg (by rw [hi]; simp)]
  cases l <;> rfl
theorem beE_zero {b : Int} {p : List Str} {x : BE} (h : beE b p x = 0) : (1 ≤ x.amount ∧ x.amount ≤ 100000000) ∧ (x.in_ = false → x.home ∉ p ∧ x.amount ≤ b) := by
  unfold beE at h
  rw [firstL_zero] at h
  have h1 := rng_zero.1 (h (rng x.amount 1 100000000) (by simp))
  have h2 := (err_zero (e := 9) (by decide)).1 (h (err (!x.in_ && decide (x.home ∈ p)) 9) (by simp))
  have h3 := (err_zero (e := 23) (by decide)).1 (h (err (!x.in_ && decide (b < x.amount)) 23) (by simp))
  refine ⟨h1, fun hi => ?_⟩
  rw [hi] at h2 h3
  simp at h2 h3
  exact ⟨h2, h3⟩
/-- What stands behind entries that are right. -/
def balS : List BE → Int → List Str → Option (Int × List Str)
  | [], b, p => some (b, p)
  | x :: l, b, p => if beE b p x ≠ 0 then none else if x.in_ = true then balS l (b + x.amount) p else balS l (b - x.amount) (x.home :: p)
theorem balL_app : ∀ (l m : List BE) (b : Int) (p : List Str) (b' : Int) (p' : List Str), balS l b p = some (b', p') → balL (l ++ m) b p = balL m b' p'
  | [], m, b, p, b', p', h => by cases h; rfl
  | x :: l, m, b, p, b', p', h => by
    unfold balS at h
    rw [List.cons_append, balL]
    split at h
    · cases h
    · rename_i w
      rw [if_neg w]
      split at h
      · rename_i w2; rw [if_pos w2]; exact balL_app l m _ _ _ _ h
      · rename_i w2; rw [if_neg w2]; exact balL_app l m _ _ _ _ h
theorem balS_app : ∀ (l m : List BE) (b : Int) (p : List Str) (b' : Int) (p' : List Str), balS l b p = some (b', p') → balS (l ++ m) b p = balS m b' p'
  | [], m, b, p, b', p', h => by cases h; rfl
  | x :: l, m, b, p, b', p', h => by
    unfold balS at h
    rw [List.cons_append, balS]
    split at h
    · cases h
    · rename_i w
      rw [if_neg w]
      split at h
      · rename_i w2; rw [if_pos w2]; exact balS_app l m _ _ _ _ h
      · rename_i w2; rw [if_neg w2]; exact balS_app l m _ _ _ _ h
/-- A key that is there. -/
theorem findNow_yes {s : List UInt8} {l : List MapEntry} (h : ∀ e ∈ l, (∃ s' : List UInt8, e.key = .string ⟨s'.toArray⟩) ∧ e.val = .bool true) (hs : ∃ e ∈ l, e.key = .string ⟨s.toArray⟩) (i : Nat) : ∃ j, Instr.findNow .string (.string ⟨s.toArray⟩) l i = some (some (j, .bool true)) := by
  rcases MapKept.findNow_spec (d := .string) (k := .string ⟨s.toArray⟩) trivial l i (fun x hx => by obtain ⟨⟨s', e⟩, _⟩ := h x hx; rw [e]; trivial) with ⟨h1, h2⟩ | ⟨j, e, h1, h2, h3⟩
  · obtain ⟨e, he, hk⟩ := hs
    exact absurd hk (h2 e he)
  · exact ⟨_, by rw [h1, (h e (List.mem_of_getElem? h2)).2]⟩
/-- The entries that the law tells, beside the journal. -/
structure TInv (told : List BE) (offers : List Of) (fund : Int) (k : Nat) : Prop where
  len : told.length = k
  run : ∃ p, balS told 0 [] = some (fund, p) ∧ ∀ i, i < 3 → (hN i ∈ p ↔ offers.any (fun x => decide (x.house = hN i)) = true)
theorem TInv.init : TInv [] [] 0 0 := ⟨rfl, [], rfl, by simp⟩
theorem hN_inj : ∀ i, i < 3 → ∀ j, j < 3 → hN i = hN j → i = j := by decide
theorem TInv.in_ok {told : List BE} {offers : List Of} {fund : Int} {k : Nat} (h : TInv told offers fund k) (hk : k < 8) {a : Int} (ha : 1 ≤ a ∧ a ≤ 65536) :
    balE (told ++ [⟨true, [], a⟩]) = (fund + a, 0) ∧ TInv (told ++ [⟨true, [], a⟩]) offers (fund + a) (k + 1) := by
  obtain ⟨hl, p, hr, hp⟩ := h
  have h1 : rng a 1 100000000 = 0 := rng_zero.2 (by omega)
  have hb : beE fund p ⟨true, [], a⟩ = 0 := by simp [beE, firstL, h1, err]
  have hb2 : beE fund p ⟨true, [], a⟩ ≠ 0 ↔ False := by simp [hb]
  refine ⟨?_, by rw [List.length_append]; simp only [List.length_cons, List.length_nil]; omega, p, ?_, hp⟩
  · unfold balE
    rw [if_neg (by rw [List.length_append]; simp only [List.length_cons, List.length_nil]; omega), balL_app _ _ _ _ _ _ hr]
    simp [balL, hb2]
  · rw [balS_app _ _ _ _ _ _ hr]
    simp [balS, hb2]
theorem TInv.out_at {told : List BE} {offers : List Of} {fund : Int} {k : Nat} (h : TInv told offers fund k) (hk : k < 8) {i : Nat} (hi : i < 3) {a : Int} (ha : 1 ≤ a ∧ a ≤ 65536) :
    balE (told ++ [⟨false, hN i, a⟩]) = if offers.any (fun x => decide (x.house = hN i)) = true then (0, 9) else if fund < a then (0, 23) else (fund - a, 0) := by
  obtain ⟨hl, p, hr, hp⟩ := h
  have h1 : rng a 1 100000000 = 0 := rng_zero.2 (by omega)
  have h2 := hN_name i hi
  have h3 := hp i hi
  unfold balE
  rw [if_neg (by rw [List.length_append]; simp only [List.length_cons, List.length_nil]; omega), balL_app _ _ _ _ _ _ hr]
  by_cases q1 : offers.any (fun x => decide (x.house = hN i)) = true
  · rw [if_pos q1]
    have hb : beE fund p ⟨false, hN i, a⟩ = 9 := by simp [beE, firstL, h1, h2, err, h3.2 q1]
    unfold balL
    rw [hb]; rfl
  · rw [if_neg q1]
    have h4 : ¬ hN i ∈ p := fun q => q1 (h3.1 q)
    by_cases q2 : fund < a
    · rw [if_pos q2]
      have hb : beE fund p ⟨false, hN i, a⟩ = 23 := by simp [beE, firstL, h1, h2, err, h4, q2]
      unfold balL
      rw [hb]; rfl
    · rw [if_neg q2]
      have hb : beE fund p ⟨false, hN i, a⟩ = 0 := by simp [beE, firstL, h1, h2, err, h4, q2]
      simp [balL, hb]
theorem TInv.out_ok {told : List BE} {offers : List Of} {fund : Int} {k : Nat} (h : TInv told offers fund k) (hk : k < 8) {i : Nat} (hi : i < 3) {a : Int} (ha : 1 ≤ a ∧ a ≤ 65536) (hno : offers.any (fun x => decide (x.house = hN i)) = false) (hf : ¬ fund < a) :
    TInv (told ++ [⟨false, hN i, a⟩]) (offers ++ [⟨oN k, hN i, a, true⟩]) (fund - a) (k + 1) := by
  obtain ⟨hl, p, hr, hp⟩ := h
  have h1 : rng a 1 100000000 = 0 := rng_zero.2 (by omega)
  have h2 := hN_name i hi
  have h3 := hp i hi
  have h4 : ¬ hN i ∈ p := fun q => by rw [h3.1 q] at hno; cases hno
  have hb : beE fund p ⟨false, hN i, a⟩ = 0 := by simp [beE, firstL, h1, h2, err, h4, hf]
  refine ⟨by rw [List.length_append]; simp only [List.length_cons, List.length_nil]; omega, hN i :: p, ?_, fun j hj => ?_⟩
  · rw [balS_app _ _ _ _ _ _ hr]
    simp [balS, hb]
  · have h5 := hp j hj
    rw [List.mem_cons, h5]
    by_cases q : i = j
    · subst q; simp
    · have h6 : ¬ hN j = hN i := fun e => q (hN_inj j hj i hi e).symm
      have h7 : ¬ hN i = hN j := fun e => h6 e.symm
      simp [h6, h7]
end Go.Fly.Off
end
section
/- Homes with one window through which all passes: contracts. -/
namespace Go.Fly.Off
open Go
/-- A sum of first elements. -/
def sN (f : Nat → Int) : Nat → Int
  | 0 => 0
  | n + 1 => sN f n + f n
def OutOk (f : Nat → Int) : Prop := ∀ i, i < 8 → 0 ≤ f i ∧ f i ≤ 100000000
theorem sN_bd {f : Nat → Int} (h : OutOk f) : ∀ {n : Nat}, n ≤ 8 → 0 ≤ sN f n ∧ sN f n ≤ 100000000 * n
  | 0, _ => ⟨Int.le_refl _, Int.le_refl _⟩
  | n + 1, hn => by
    have h1 := sN_bd h (n := n) (by omega)
    have h2 := h n (by omega)
    show 0 ≤ sN f n + f n ∧ sN f n + f n ≤ _
    omega
def hmRow (f : Nat → Int) : List V := [.int .i64 (f 0), .int .i64 (f 1), .int .i64 (f 2), .int .i64 (f 3), .int .i64 (f 4), .int .i64 (f 5), .int .i64 (f 6), .int .i64 (f 7), .int .i64 100,
  .int .i64 1000, .int .i64 1000, .int .i64 1000, .int .i64 1000, .int .i64 1000, .int .i64 1000, .int .i64 1000, .int .i64 1000, .int .i64 1000, .int .i64 1000, .int .i64 1000, .int .i64 1000, .int .i64 1000, .int .i64 1000, .int .i64 1000, .int .i64 1000]
def homeV (s : Str) (f : Nat → Int) : V := .agg [.str s, .int .i64 0, .sl 1 25 fun _ => hmRow f]
def wSum (cs : List V) : Int := sN (fun i => intOf (cs.getD i .top)) 8
theorem wSum_row {f : Nat → Int} : wSum (hmRow f) = sN f 8 := rfl
theorem wSum_rowU {f : Nat → Int} {r : List V} : wSum (.int .i64 (f 0) :: .int .i64 (f 1) :: .int .i64 (f 2) :: .int .i64 (f 3) :: .int .i64 (f 4) :: .int .i64 (f 5) :: .int .i64 (f 6) :: .int .i64 (f 7) :: r) = sN f 8 := rfl
def hSum : V → Int
  | .agg [_, _, .sl _ _ g] => wSum (g 0)
  | _ => 0
theorem hSum_home {s : Str} {f : Nat → Int} : hSum (homeV s f) = sN f 8 := rfl
theorem hSum_U {a b : V} {n sz : Nat} {f : Nat → Int} : hSum (.agg [a, b, .sl n sz fun _ => hmRow f]) = sN f 8 := rfl
theorem ones_row (f : Nat → Int) : Ones (hmRow f) := by
  unfold hmRow
  repeat' first | exact ones_nil | refine ones_cons (.int _ _) rfl ?_
theorem pu_home (s : Str) (f : Nat → Int) : Pu (homeV s f) ↔ True := iff_true_intro (pu_agg.2 fun v hv => by
  simp only [List.mem_cons, List.not_mem_nil, or_false] at hv
  rcases hv with rfl | rfl | rfl
  · exact .str _
  · exact .int _ _
  · exact pu_sl.2 fun _ _ => (ones_row f).pu)
theorem pu_rowS (n sz : Nat) (f : Nat → Int) : Pu (.sl n sz fun _ => hmRow f) ↔ True := iff_true_intro (pu_sl.2 fun _ _ => (ones_row f).pu)
theorem frz_home {n : Nat} {hp : Heap} (s : Str) (f : Nat → Int) : frz (n + 1) hp (homeV s f) = homeV s f := frz_pu ((pu_home s f).2 trivial)
attribute [go_sem] wSum_row wSum_rowU hSum_home hSum_U pu_home pu_rowS frz_home
def mapIv0C (k : FuncId) : Contract := fun _ args => ⟨∃ n get, args = [.sl n 2 get, .fn (.func k) [] []] ∧ n ≤ 1000 ∧ ∀ i, i < n → get i = [.int .i64 1000, .int .i64 1000],
  .sl (match arg args 0 with | .sl n _ _ => n | _ => 0) 1 fun _ => [.int .i64 0], none⟩
def mapInt0C (k : FuncId) : Contract := fun _ args => ⟨∃ n get, args = [.sl n 1 get, .fn (.func k) [] []] ∧ n ≤ 1000 ∧ IsInts n get ∧ ∀ i, i < n → 0 ≤ intAt get i ∧ intAt get i ≤ 100000000,
  .sl (match arg args 0 with | .sl n _ _ => n | _ => 0) 1 fun _ => [.int .i64 0], none⟩
def pass0C : Contract := fun _ args => ⟨args = [.agg [.int .i64 1000, .int .i64 1000, .int .i64 1000, .int .i64 1000, .int .i64 1000, .int .i64 1000, .int .i64 1000, .int .i64 1000, .int .i64 1000, .int .i64 1000, .int .i64 1000, .int .i64 1000, .int .i64 1000, .int .i64 1000, .int .i64 1000, .int .i64 1000]], .int .i64 0, none⟩
def winC : Contract := fun _ args => ⟨∃ f, args = [.agg (hmRow f)] ∧ OutOk f, .int .i64 0, none⟩
def mapWin0C (k : FuncId) : Contract := fun _ args => ⟨∃ f, args = [.sl 1 25 fun _ => hmRow f, .fn (.func k) [] []] ∧ OutOk f, .sl 1 1 fun _ => [.int .i64 0], none⟩
def chkHomeC : Contract := fun _ args => ⟨∃ s f, args = [homeV s f] ∧ nameB s = true ∧ OutOk f, .int .i64 0, none⟩
def totalC : Contract := fun _ args => ⟨∃ f : Nat → Int, args = [.agg [.int .i64 (f 0), .int .i64 (f 1), .int .i64 (f 2), .int .i64 (f 3), .int .i64 (f 4), .int .i64 (f 5), .int .i64 (f 6), .int .i64 (f 7)]] ∧ OutOk f, .int .i64 (wSum (cellsOf (arg args 0))), none⟩
def winSumC : Contract := fun _ args => ⟨∃ f, args = [.agg (hmRow f)] ∧ OutOk f, .int .i64 (wSum (cellsOf (arg args 0))), none⟩
def mapWinSumC (k : FuncId) : Contract := fun _ args => ⟨∃ f, args = [.sl 1 25 fun _ => hmRow f, .fn (.func k) [] []] ∧ OutOk f, .sl 1 1 fun _ => [.int .i64 (match arg args 0 with | .sl _ _ g => wSum (g 0) | _ => 0)], none⟩
def max1C : Contract := fun _ args => ⟨∃ n : Int, args = [.sl 1 1 fun _ => [.int .i64 n]], (match arg args 0 with | .sl _ _ g => .int .i64 (intOf ((g 0).getD 0 .top)) | _ => .top), none⟩
def homeSumC : Contract := fun _ args => ⟨∃ s f, args = [homeV s f] ∧ OutOk f, .int .i64 (hSum (arg args 0)), none⟩
def outdoorC : Contract := fun _ args => ⟨∃ s f, args = [homeV s f] ∧ nameB s = true ∧ OutOk f, .tup [.int .i64 (hSum (arg args 0)), .int .i64 0], none⟩
def winInC : Contract := fun _ args => ⟨∃ f, args = [.agg (hmRow f)] ∧ OutOk f, .agg [.int .i64 (wSum (cellsOf (arg args 0))), .int .i64 (wSum (cellsOf (arg args 0)))], none⟩
def homeInC : Contract := fun _ args => ⟨∃ s f, args = [homeV s f] ∧ OutOk f, .agg [.int .i64 (hSum (arg args 0)), .int .i64 (hSum (arg args 0))], none⟩
def indoorC : Contract := fun _ args => ⟨∃ s f, args = [homeV s f] ∧ nameB s = true ∧ OutOk f, .tup [.agg [.int .i64 (hSum (arg args 0)), .int .i64 (hSum (arg args 0))], .int .i64 0], none⟩
/-- The energies of a house, by bands. -/
def gE (n : Nat) (get : Nat → List V) (b : Nat) : Int := if b < n then intAt get b else 0
def eHouseC : Contract := fun _ args => ⟨∃ s n get, args = [.str s, .sl n 1 get] ∧ IsInts n get, homeV (strOf (arg args 0)) (match arg args 1 with | .sl n _ g => gE n g | _ => fun _ => 0), none⟩
attribute [go_sem] mapIv0C mapInt0C pass0C winC mapWin0C chkHomeC totalC winSumC mapWinSumC max1C homeSumC outdoorC winInC homeInC indoorC eHouseC
/-- What a loop over the bands has put down. -/
def hCells (g : Nat → Int) (i : Nat) : List V :=
  let a (j : Nat) : V := .int .i64 (if j < i then g j else 0)
  let p (j : Nat) : V := .int .i64 (if j < i then 1000 else 0)
  [a 0, a 1, a 2, a 3, a 4, a 5, a 6, a 7, .int .i64 100, p 0, p 0, p 1, p 1, p 2, p 2, p 3, p 3, p 4, p 4, p 5, p 5, p 6, p 6, p 7, p 7]
theorem isInts_0 {n : Nat} (h : n ≤ 1000000) : IsInts n fun _ => [V.int .i64 0] := ⟨by omega, fun i hi => rfl⟩
theorem pu_rowAt {cells : List V} {n sz : Nat} (h : ∀ v ∈ cells, Pu v) : Pu (.sl n sz (rowAt cells sz)) := pu_sl.2 fun i _ v hv => h v (List.mem_of_mem_drop (List.mem_of_mem_take hv))
theorem row16 : ∀ i, i < 8 → rowAt [V.int .i64 1000, .int .i64 1000, .int .i64 1000, .int .i64 1000, .int .i64 1000, .int .i64 1000, .int .i64 1000, .int .i64 1000, .int .i64 1000, .int .i64 1000, .int .i64 1000, .int .i64 1000, .int .i64 1000, .int .i64 1000, .int .i64 1000, .int .i64 1000] 2 i = [.int .i64 1000, .int .i64 1000] := fun i hi => by
  have : i = 0 ∨ i = 1 ∨ i = 2 ∨ i = 3 ∨ i = 4 ∨ i = 5 ∨ i = 6 ∨ i = 7 := by omega
  rcases this with rfl | rfl | rfl | rfl | rfl | rfl | rfl | rfl <;> rfl
theorem pu_row16 : Pu (.sl 8 2 (rowAt [V.int .i64 1000, .int .i64 1000, .int .i64 1000, .int .i64 1000, .int .i64 1000, .int .i64 1000, .int .i64 1000, .int .i64 1000, .int .i64 1000, .int .i64 1000, .int .i64 1000, .int .i64 1000, .int .i64 1000, .int .i64 1000, .int .i64 1000, .int .i64 1000] 2)) := pu_rowAt fun v hv => by
  simp only [List.mem_cons, List.not_mem_nil, or_false, or_self] at hv
  rw [hv]
  exact .int _ _
theorem rowF {f : Nat → Int} (i : Nat) (hi : i < 8) : rowAt (hmRow f) 1 i = [.int .i64 (f i)] := by
  have : i = 0 ∨ i = 1 ∨ i = 2 ∨ i = 3 ∨ i = 4 ∨ i = 5 ∨ i = 6 ∨ i = 7 := by omega
  rcases this with rfl | rfl | rfl | rfl | rfl | rfl | rfl | rfl <;> rfl
theorem rowI {f : Nat → Int} (i : Nat) (hi : i < 8) : intAt (rowAt (hmRow f) 1) i = f i := by unfold intAt; rw [rowF i hi]
theorem ints_row (f : Nat → Int) : IsInts 8 (rowAt (hmRow f) 1) := ⟨by decide, fun i hi => by rw [rowF i hi, rowI i hi]⟩
theorem pu_rowF (f : Nat → Int) : Pu (.sl 8 1 (rowAt (hmRow f) 1)) := pu_rowAt (ones_row f).pu
theorem name24 {s : Str} (h : nameB s = true) : s.length ≤ 24 := by
  unfold nameB at h
  simp only [Bool.and_eq_true, decide_eq_true_eq] at h
  exact h.1.2
theorem sN_m (f : Nat → Int) (i : Nat) : V.int .i64 (1000 * sN f i + f i * 1000) = V.int .i64 (1000 * sN f (i + 1)) := by
  have : sN f (i + 1) = sN f i + f i := rfl
  rw [this]
  congr 1
  omega
theorem hpLe_new2 {H : Heap} {l : Loc} {a b : AObj} (h : H l = none) : HpLe (updH (updH H l a) l b) H := hpLe_off (L := l) h fun q hq => by rw [updH_ne hq, updH_ne hq]
theorem objLe_cells {a b : List V} (h : a = b) : ObjLe (.cells a) (.cells b) := h ▸ ObjLe.refl _
theorem first3_0 : firstL [firstI (fun _ => 0) 0 8, rng 100 1 100, 0] = 0 := by decide
end Go.Fly.Off
end
