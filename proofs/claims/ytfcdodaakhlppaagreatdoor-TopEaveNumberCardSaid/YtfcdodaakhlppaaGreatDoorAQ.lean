/- Part of a proof: an evaluator of the model's code by abstract values, and plain laws for it. No conditions. -/
import Derived.Test.YtfcdodaakhlppaaGreatDoorAP
set_option linter.unusedSimpArgs false
set_option linter.unusedVariables false
section
/- The office: when an event may be put into a register. -/
namespace Go.Fly.Off
open Go
theorem hpLe_of_eq {S S' : Heap} (h : S = S') : HpLe S S' := h ▸ HpLe.refl _
structure RegOk (r : Reg) : Prop where
  rl : RL r
  fund : 0 ≤ r.fund ∧ r.fund ≤ 1000000000000
  offers : ∀ o ∈ r.offers, 0 ≤ o.amount ∧ o.amount ≤ 1000000000000
  chain : ∀ h ∈ r.houses, ChainOk r h.share
structure AppPre (r : Reg) (e : Ev) (k : Kd) : Prop where
  reg : RegOk r
  names : e.names.length = k.letters.length
  vals : e.vals.length = k.values
  known : knownE r e k = 0
  bd : ∀ v ∈ e.vals, 0 ≤ v ∧ v ≤ 999999999
theorem AppPre.val {r : Reg} {e : Ev} {k : Kd} (h : AppPre r e k) {i : Nat} (hi : i < k.values) : 0 ≤ el e.vals i ∧ el e.vals i ≤ 999999999 :=
  h.bd _ (el_mem (by rw [h.vals]; exact hi))
theorem AppPre.pay {r : Reg} {e : Ev} (h : AppPre r e .pay) : 0 ≤ (el r.offers (place (r.namesOf 111) (el e.names 0))).amount ∧ (el r.offers (place (r.namesOf 111) (el e.names 0))).amount ≤ 1000000000000 :=
  h.reg.offers _ (el_mem (place_lt_of (f := Of.name) (there_of (i := 0) h.known (by decide) (by decide))))
theorem put_day {H : Heap} {y : Lay} {r : Reg} {d : Int} {cs : List V} (hc : cs = y.pre ++ regCells y { r with day := d }) : updH (putReg H y r) y.box (.cells cs) = putReg H y { r with day := d } := by
  subst hc
  funext l
  unfold updH putReg
  by_cases e0 : l = y.box
  · simp only [if_pos e0]
  · simp only [if_neg e0]
    rfl
theorem applyE_of {lv : Int → Int} {r : Reg} {e : Ev} {k : Kd} (hk : kindOf e.kind = some k) : applyE lv r e = { applyK lv r e k with day := el e.vals 0 } := by
  unfold applyE
  rw [hk]
  rfl
end Go.Fly.Off
end
section
/- The office: what always holds of a register. -/
namespace Go.Fly.Off
open Go
theorem mem_modify_of {α : Type} {l : List α} {p : Nat} {h : α → α} {x : α} (hx : x ∈ l.modify p h) : ∃ y ∈ l, x = y ∨ x = h y := by
  obtain ⟨i, hi, rfl⟩ := List.mem_iff_getElem.1 hx
  rw [List.length_modify] at hi
  rw [List.getElem_modify]
  refine ⟨l[i], List.getElem_mem hi, ?_⟩
  split
  · exact .inr rfl
  · exact .inl rfl
theorem map_modify_same {α β : Type} {f : α → β} {l : List α} {p : Nat} {h : α → α} (hf : ∀ x, f (h x) = f x) : (l.modify p h).map f = l.map f := by
  apply List.ext_getElem
  · simp
  · intro i h1 h2
    simp only [List.getElem_map, List.getElem_modify]
    split
    · exact hf _
    · rfl
/-- What always holds of a register. -/
structure Good (r : Reg) : Prop where
  day : 0 ≤ r.day ∧ r.day ≤ 999999999
  nt : r.types.length ≤ 8
  nh : r.houses.length ≤ 32
  nf : r.flights.length ≤ 64
  nm : r.maps.length ≤ 16
  no : r.offers.length ≤ 32
  nc : r.complaints.length ≤ 64
  tys : ∀ t ∈ r.types, (0 ≤ t.energy ∧ t.energy ≤ 1000000000) ∧ 0 ≤ t.factor ∧ t.factor ≤ 2000
  hos : ∀ h ∈ r.houses, 0 ≤ h.share ∧ h.share ≤ 1000
  fls : ∀ f ∈ r.flights, f.type ∈ r.namesOf 116
  mps : ∀ m ∈ r.maps, m.levels.length ≤ 32
  ofs : ∀ o ∈ r.offers, 0 ≤ o.amount ∧ o.amount ≤ 100000000
  fund : 0 ≤ r.fund ∧ r.fund ≤ 1000000000000
theorem Good.rl {r : Reg} (h : Good r) : RL r := ⟨by have := h.nt; omega, by have := h.nh; omega, by have := h.nf; omega, by have := h.nm; omega, by have := h.no; omega, by have := h.nc; omega⟩
theorem Good.ok {r : Reg} (h : Good r) : RegOk r := ⟨h.rl, h.fund, fun o ho => ⟨(h.ofs o ho).1, by have := (h.ofs o ho).2; omega⟩, fun x hx => ⟨h.rl, h.tys, h.fls, h.nf, h.hos x hx⟩⟩
theorem Good.last {r : Reg} (h : Good r) : LastOk r := fun m hm => by
  have := h.mps m (List.mem_of_getLast? hm)
  omega
theorem Good.init : Good {} := ⟨by decide, by decide, by decide, by decide, by decide, by decide, by decide, by simp, by simp, by simp, by simp, by simp, by decide⟩
/-- An event that is accepted, and that stays. -/
structure Acc (r : Reg) (e : Ev) (k : Kd) : Prop where
  ev : eventE e = 0
  kind : kindOf e.kind = some k
  real : k ≠ .undo
  day : r.day ≤ el e.vals 0
  known : knownE r e k = 0
  check : checkK r e k = 0
theorem Acc.facts {r : Reg} {e : Ev} {k : Kd} (h : Acc r e k) : e.names.length = k.letters.length ∧ e.vals.length = k.values ∧ ∀ v ∈ e.vals, 0 ≤ v ∧ v ≤ 999999999 := by
  obtain ⟨k', h1, h2, h3, h4, -⟩ := event_ok h.ev
  rw [h.kind] at h1
  cases h1
  exact ⟨h2, h3, h4⟩
theorem Acc.pre {r : Reg} {e : Ev} {k : Kd} (h : Acc r e k) (hg : Good r) : AppPre r e k := ⟨hg.ok, h.facts.1, h.facts.2.1, h.known, h.facts.2.2⟩
theorem Acc.val {r : Reg} {e : Ev} {k : Kd} (h : Acc r e k) {i : Nat} (hi : i < k.values) : 0 ≤ el e.vals i ∧ el e.vals i ≤ 999999999 :=
  h.facts.2.2 _ (el_mem (by rw [h.facts.2.1]; exact hi))
theorem Acc.good {lv : Int → Int} {r : Reg} {e : Ev} {k : Kd} (h : Acc r e k) (hg : Good r) : Good (applyE lv r e) := by
  rw [applyE_of h.kind]
  have hd : 0 ≤ el e.vals 0 ∧ el e.vals 0 ≤ 999999999 := h.val (by have := h.real; cases k <;> first | decide | exact absurd rfl this)
  have hc := h.check
  obtain ⟨g1, g2, g3, g4, g5, g6, g7, g8, g9, g10, g11, g12, g13⟩ := hg
  cases k
  case type =>
    simp only [checkK, firstL_zero, List.mem_cons, List.not_mem_nil, or_false, forall_eq_or_imp, forall_eq, rng_zero, err_zero (e := 5) (by decide), decide_eq_false_iff_not] at hc
    have hv : 0 ≤ el e.vals 1 ∧ el e.vals 1 ≤ 1000000000 := hc.1
    refine ⟨hd, ?_, g3, g4, g5, g6, g7, ?_, g9, ?_, g11, g12, g13⟩
    · show (r.types ++ [_]).length ≤ 8
      rw [List.length_append]; simp only [List.length_cons, List.length_nil]; omega
    · intro t ht
      rcases List.mem_append.1 (show t ∈ r.types ++ [_] from ht) with q | q
      · exact g8 t q
      · rw [List.mem_singleton.1 q]; exact ⟨hv, by show (0 : Int) ≤ 1000 ∧ (1000 : Int) ≤ 2000; decide⟩
    · intro f hf
      have := g10 f hf
      show f.type ∈ (r.types ++ [_]).map _
      rw [List.map_append]
      exact List.mem_append_left _ this
  case house =>
    simp only [checkK, firstL_zero, List.mem_cons, List.not_mem_nil, or_false, forall_eq_or_imp, forall_eq, rng_zero, err_zero (e := 5) (by decide), decide_eq_false_iff_not] at hc
    have hv : 0 ≤ el e.vals 1 ∧ el e.vals 1 ≤ 1000 := hc.1
    refine ⟨hd, g2, ?_, g4, g5, g6, g7, g8, ?_, g10, g11, g12, g13⟩
    · show (r.houses ++ [_]).length ≤ 32
      rw [List.length_append]; simp only [List.length_cons, List.length_nil]; omega
    · intro t ht
      rcases List.mem_append.1 (show t ∈ r.houses ++ [_] from ht) with q | q
      · exact g9 t q
      · rw [List.mem_singleton.1 q]; exact hv
  case flight =>
    simp only [checkK, firstL_zero, List.mem_cons, List.not_mem_nil, or_false, forall_eq_or_imp, forall_eq, rng_zero, err_zero (e := 5) (by decide), decide_eq_false_iff_not] at hc
    refine ⟨hd, g2, g3, ?_, g5, g6, g7, g8, g9, ?_, g11, g12, g13⟩
    · show (r.flights ++ [_]).length ≤ 64
      rw [List.length_append]; simp only [List.length_cons, List.length_nil]; omega
    · intro t ht
      rcases List.mem_append.1 (show t ∈ r.flights ++ [_] from ht) with q | q
      · exact g10 t q
      · rw [List.mem_singleton.1 q]; exact there_of (i := 1) h.known (by decide) (by decide)
  case match_ =>
    refine ⟨hd, g2, g3, ?_, g5, g6, g7, g8, g9, ?_, g11, g12, g13⟩
    · show (r.flights.modify _ _).length ≤ 64
      rw [List.length_modify]; exact g4
    · intro t ht
      obtain ⟨y, hy, q⟩ := mem_modify_of (show t ∈ r.flights.modify _ _ from ht)
      rcases q with rfl | rfl
      · exact g10 _ hy
      · exact g10 y hy
  case correct =>
    simp only [checkK, firstL_zero, List.mem_cons, List.not_mem_nil, or_false, forall_eq_or_imp, forall_eq, rng_zero] at hc
    have hv : 1 ≤ el e.vals 1 ∧ el e.vals 1 ≤ 2000 := hc.1
    refine ⟨hd, ?_, g3, g4, g5, g6, g7, ?_, g9, ?_, g11, g12, g13⟩
    · show (r.types.modify _ _).length ≤ 8
      rw [List.length_modify]; exact g2
    · intro t ht
      obtain ⟨y, hy, q⟩ := mem_modify_of (show t ∈ r.types.modify _ _ from ht)
      rcases q with rfl | rfl
      · exact g8 _ hy
      · exact ⟨(g8 y hy).1, by show 0 ≤ el e.vals 1; omega, hv.2⟩
    · intro f hf
      show f.type ∈ (r.types.modify _ _).map _
      rw [map_modify_same (f := (·.name)) (h := fun t : Ty => { t with factor := e.vl 1 }) (fun x => rfl)]
      exact g10 f hf
  case publish =>
    simp only [checkK, firstL_zero, List.mem_cons, List.not_mem_nil, or_false, forall_eq_or_imp, forall_eq, err_zero (e := 5) (by decide), err_zero (e := 12) (by decide), decide_eq_false_iff_not] at hc
    refine ⟨hd, g2, g3, g4, ?_, g6, g7, g8, g9, g10, ?_, g12, g13⟩
    · show (r.maps ++ [_]).length ≤ 16
      rw [List.length_append]; simp only [List.length_cons, List.length_nil]; omega
    · intro t ht
      rcases List.mem_append.1 (show t ∈ r.maps ++ [_] from ht) with q | q
      · exact g11 t q
      · rw [List.mem_singleton.1 q]
        show (r.houses.map _).length ≤ 32
        rw [List.length_map]; exact g3
  case offer =>
    simp only [checkK, firstL_zero, List.mem_cons, List.not_mem_nil, or_false, forall_eq_or_imp, forall_eq, rng_zero, err_zero (e := 5) (by decide), decide_eq_false_iff_not] at hc
    have hv : 1 ≤ el e.vals 1 ∧ el e.vals 1 ≤ 100000000 := hc.1
    have hn := hc.2.2.2.2
    refine ⟨hd, g2, g3, g4, g5, ?_, g7, g8, g9, g10, g11, ?_, g13⟩
    · show (r.offers ++ [_]).length ≤ 32
      rw [List.length_append]; simp only [List.length_cons, List.length_nil]; omega
    · intro t ht
      rcases List.mem_append.1 (show t ∈ r.offers ++ [_] from ht) with q | q
      · exact g12 t q
      · rw [List.mem_singleton.1 q]; exact ⟨by show 0 ≤ el e.vals 1; omega, hv.2⟩
  case fund =>
    simp only [checkK, firstL_zero, List.mem_cons, List.not_mem_nil, or_false, forall_eq_or_imp, forall_eq, rng_zero, err_zero (e := 4) (by decide), decide_eq_false_iff_not] at hc
    have hv : 1 ≤ el e.vals 1 ∧ el e.vals 1 ≤ 100000000 := hc.1
    have hn : ¬ 1000000000000 - el e.vals 1 < r.fund := hc.2
    refine ⟨hd, g2, g3, g4, g5, g6, g7, g8, g9, g10, g11, g12, ?_⟩
    show 0 ≤ r.fund + el e.vals 1 ∧ r.fund + el e.vals 1 ≤ 1000000000000
    omega
  case pay =>
    simp only [checkK, firstL_zero, List.mem_cons, List.not_mem_nil, or_false, forall_eq_or_imp, forall_eq, err_zero (e := 23) (by decide), err_zero (e := 16) (by decide), decide_eq_false_iff_not] at hc
    have hn : ¬ r.fund < (r.offer (el e.names 0)).amount := hc.2
    have ho : 0 ≤ (r.offer (el e.names 0)).amount := (g12 _ (el_mem (place_lt_of (f := Of.name) (there_of (i := 0) h.known (by decide) (by decide))))).1
    refine ⟨hd, g2, g3, g4, g5, ?_, g7, g8, g9, g10, g11, ?_, ?_⟩
    · show (r.offers.modify _ _).length ≤ 32
      rw [List.length_modify]; exact g6
    · intro t ht
      obtain ⟨y, hy, q⟩ := mem_modify_of (show t ∈ r.offers.modify _ _ from ht)
      rcases q with rfl | rfl
      · exact g12 _ hy
      · exact g12 y hy
    · show 0 ≤ r.fund - (r.offer (el e.names 0)).amount ∧ r.fund - (r.offer (el e.names 0)).amount ≤ 1000000000000
      omega
  case complain =>
    simp only [checkK, firstL_zero, List.mem_cons, List.not_mem_nil, or_false, forall_eq_or_imp, forall_eq, rng_zero, err_zero (e := 5) (by decide), decide_eq_false_iff_not] at hc
    refine ⟨hd, g2, g3, g4, g5, g6, ?_, g8, g9, g10, g11, g12, g13⟩
    show (r.complaints ++ [_]).length ≤ 64
    rw [List.length_append]; simp only [List.length_cons, List.length_nil]; omega
  case answer =>
    refine ⟨hd, g2, g3, g4, g5, g6, ?_, g8, g9, g10, g11, g12, g13⟩
    show (r.complaints.modify _ _).length ≤ 64
    rw [List.length_modify]; exact g7
  case dismiss =>
    refine ⟨hd, g2, g3, g4, g5, g6, ?_, g8, g9, g10, g11, g12, g13⟩
    show (r.complaints.modify _ _).length ≤ 64
    rw [List.length_modify]; exact g7
  case undo => exact absurd rfl h.real
/-- Each event of a list is accepted by the register that those ahead of it make. -/
def Cnt (lv : Int → Int) (l : List Ev) : Prop := ∀ i, i < l.length → ∃ k, Acc (made lv (l.take i)) (el l i) k
theorem made_snoc (lv : Int → Int) (l : List Ev) (e : Ev) : made lv (l ++ [e]) = applyE lv (made lv l) e := by
  unfold made
  rw [List.foldl_append]
  rfl
theorem made_take (lv : Int → Int) (l : List Ev) {i : Nat} (hi : i < l.length) : made lv (l.take (i + 1)) = applyE lv (made lv (l.take i)) (el l i) := by
  rw [take_snoc hi, made_snoc]
theorem Cnt.good {lv : Int → Int} {l : List Ev} (h : Cnt lv l) : ∀ {i : Nat}, i ≤ l.length → Good (made lv (l.take i))
  | 0, _ => by rw [List.take_zero]; exact Good.init
  | i + 1, hi => by
    rw [made_take lv l (by omega)]
    obtain ⟨k, hk⟩ := h i (by omega)
    exact hk.good (h.good (by omega))
theorem Cnt.goodM {lv : Int → Int} {l : List Ev} (h : Cnt lv l) : Good (made lv l) := by
  have := h.good (Nat.le_refl l.length)
  rwa [List.take_length] at this
theorem Cnt.nil {lv : Int → Int} : Cnt lv [] := fun i hi => absurd hi (by simp)
theorem Cnt.snoc {lv : Int → Int} {l : List Ev} {e : Ev} {k : Kd} (h : Cnt lv l) (he : Acc (made lv l) e k) : Cnt lv (l ++ [e]) := fun i hi => by
  rw [List.length_append] at hi
  simp only [List.length_cons, List.length_nil] at hi
  by_cases q : i < l.length
  · rw [List.take_append_of_le_length (by omega), el_snoc_lt q]
    exact h i q
  · obtain rfl : i = l.length := by omega
    rw [List.take_left, el_snoc rfl]
    exact ⟨k, he⟩
theorem Cnt.take {lv : Int → Int} {l : List Ev} (h : Cnt lv l) (n : Nat) : Cnt lv (l.take n) := fun i hi => by
  rw [List.length_take] at hi
  have h1 := h i (by omega)
  rw [List.take_take, Nat.min_eq_left (by omega)]
  have : el (l.take n) i = el l i := by
    rw [el_get _ (by rw [List.length_take]; omega), el_get _ (by omega), List.getElem_take]
  rw [this]
  exact h1
/-- What always holds of a history. -/
structure HOk (lv : Int → Int) (h : Hist) : Prop where
  cnt : Cnt lv h.counted
  now : h.now = made lv h.counted
  le : h.counted.length ≤ h.events.length
theorem HOk.good {lv : Int → Int} {h : Hist} (q : HOk lv h) : Good h.now := by rw [q.now]; exact q.cnt.goodM
theorem HOk.pre {lv : Int → Int} {h : Hist} (q : HOk lv h) (hn : h.events.length ≤ 1000) : HistPre h := ⟨q.good.rl, q.good.last, by omega, by have := q.le; omega⟩
theorem HOk.init {lv : Int → Int} : HOk lv {} := ⟨Cnt.nil, rfl, Nat.le_refl _⟩
/-- What an accepted event is: undo behind something that counts, or an event that stays. -/
theorem accept_zero {h : Hist} {e : Ev} (he : eventE e = 0) (ha : acceptE h e = 0) :
    (kindOf e.kind = some .undo ∧ 0 < h.counted.length) ∨ ∃ k, Acc h.now e k := by
  obtain ⟨k, hk, hnm, hvl, hbd, -⟩ := event_ok he
  have c1 : e.num = h.events.length + 1 := by
    apply Classical.byContradiction
    intro q
    unfold acceptE at ha
    rw [if_pos q] at ha
    cases ha
  by_cases cu : k = .undo
  · subst cu
    refine .inl ⟨hk, ?_⟩
    apply Classical.byContradiction
    intro q
    unfold acceptE at ha
    rw [if_neg (by simpa using c1), hk, List.eq_nil_of_length_eq_zero (show h.counted.length = 0 by omega)] at ha
    cases ha
  · rw [acceptE_else c1 hk cu] at ha
    split at ha
    · cases ha
    · rename_i c3
      split at ha
      · rename_i c4; exact absurd ha c4
      · rename_i c4
        exact .inr ⟨k, he, hk, cu, Int.not_lt.1 c3, Classical.not_not.1 c4, ha⟩
theorem HOk.add {lv : Int → Int} {h : Hist} {e : Ev} (q : HOk lv h) (he : eventE e = 0) (ha : acceptE h e = 0) : HOk lv (addE lv h e) := by
  refine ⟨?_, add_made lv q.now e, ?_⟩
  · rcases accept_zero he ha with ⟨hk, h0⟩ | ⟨k, hk⟩
    · unfold addE
      rw [if_pos hk]
      show Cnt lv h.counted.dropLast
      rw [List.dropLast_eq_take]
      exact q.cnt.take _
    · unfold addE
      rw [if_neg (by rw [hk.kind]; simp only [Option.some.injEq]; exact hk.real)]
      exact q.cnt.snoc (by rw [← q.now]; exact hk)
  · unfold addE
    have := q.le
    split
    · show h.counted.dropLast.length ≤ (h.events ++ [e]).length
      rw [List.length_dropLast, List.length_append]; omega
    · show (h.counted ++ [e]).length ≤ (h.events ++ [e]).length
      rw [List.length_append, List.length_append]; omega
def ownC : Contract := fun _ args => ⟨∃ e, args = [.agg (encEv e)] ∧ e.names.length ≤ 1000000 ∧ e.vals.length ≤ 1000000, .agg (encEv (decEv (cellsOf (arg args 0)))), none⟩
attribute [go_sem] ownC
end Go.Fly.Off
end
