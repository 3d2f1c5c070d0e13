/- Part of a proof: an evaluator of the model's code by abstract values, and plain laws for it. No conditions. -/
import Derived.Test.YtfcdodaakhlppaaGreatDoorAE
import Derived.OpenShut
set_option linter.unusedSimpArgs false
set_option linter.unusedVariables false
section
/- Arguments that can be read, as abstract values. -/
namespace Go.Fly
open Go

def CellsR (k : K) (us : List V) (cs : List Value) (off : Nat) : Prop := ∀ (j : Nat) (v : V), us[j]? = some v → Pu v ∧ R k v (cs.getD (off + j) undef)

theorem CellsR.append {k : K} {us us' : List V} {cs : List Value} {off : Nat} (h : CellsR k us cs off) (h' : CellsR k us' cs (off + us.length)) : CellsR k (us ++ us') cs off := by
  intro j v hv
  by_cases q : j < us.length
  · rw [List.getElem?_append_left q] at hv; exact h j v hv
  · rw [List.getElem?_append_right (by omega)] at hv
    have := h' _ v hv
    rwa [show off + us.length + (j - us.length) = off + j by omega] at this

end Go.Fly
end
section
/- Loops by what their rounds keep; values that may stand for others. -/
namespace Go.Fly
open Go

def tops : List Nat → List V → List V
  | [], tm => tm
  | d :: ds, tm => tops ds (tm.set d .top)
def sets : List (Nat × V) → List V → List V
  | [], tm => tm
  | (d, v) :: ds, tm => sets ds (tm.set d v)

/-- The second heap holds no more than the first one. -/
def HpLe (hp hp' : Heap) : Prop := ∀ l o', hp' l = some o' → ∃ o, hp l = some o ∧ ObjLe o o'
theorem HpLe.none {hp : Heap} : HpLe hp (fun _ => Option.none) := fun l o h => by cases h
theorem HpLe.refl (hp : Heap) : HpLe hp hp := fun l o h => ⟨o, h, ObjLe.refl o⟩
theorem HpLe.upd {hp hp' : Heap} {l : Loc} {o' : AObj} (h : HpLe hp hp') (ho : ∃ o, hp l = some o ∧ ObjLe o o') : HpLe hp (updH hp' l o') := by
  intro l' o h'
  by_cases e : l' = l
  · subst e; rw [updH_same] at h'; cases h'; exact ho
  · rw [updH_ne e] at h'; exact h l' o h'

theorem Ents.go {k0 : K} {ck : Nat} {tm tm' : List V} {hp hp' : Heap} (h : tmLe tm tm') (hh : HpLe hp hp') : Ents k0 ⟨ck, tm, hp⟩ ⟨ck + 1, tm', hp'⟩ :=
  Ents.weak (Nat.le_succ _) h.spec.1 h.spec.2 hh fun l _ => .inr (Nat.lt_succ_self _)

/-- A loop: which slots a round writes, what the others hold of it, what the heap is, and what is kept. -/
theorem RestT.loopI {X : Cx} {D : Tabs} {c : Code} {ck : Nat} {tm : List V} {hp : Heap} {Q : Exit → St → Prop} {β : Type} (dead : List Nat) (live : β → List (Nat × V)) (hpf : β → Heap) (Inv : β → Prop) (μ : β → Nat) (b0 : β)
    (hI : Inv b0) (h0 : tmLe tm (sets (live b0) (tops dead tm))) (hh : HpLe hp (hpf b0))
    (round : ∀ ck' b, ck ≤ ck' → Inv b → exC X D c ⟨ck', sets (live b) (tops dead tm), hpf b⟩
      (seqQ (fun s' => ck ≤ s'.ck ∧ ∃ b', Inv b' ∧ μ b' < μ b ∧ tmLe s'.tm (sets (live b') (tops dead tm)) ∧ HpLe s'.hp (hpf b')) Q)) : RestT X D (.loop c) ⟨ck, tm, hp⟩ Q := by
  intro hd hX hm
  refine T.loop (α := { x : Nat × β // ck ≤ x.1 ∧ Inv x.2 }) (fun x => ⟨x.1.1, sets (live x.1.2) (tops dead tm), hpf x.1.2⟩) (fun x => μ x.1.2) ⟨(ck + 1, b0), by simp, hI⟩ (Ents.go h0 hh) ?_
  rintro ⟨⟨ck', b⟩, h1, h2⟩
  refine T.mono (exC_ok hX hm c _ _ hd (round ck' b h1 h2)) fun e s' q => ?_
  cases e with
  | normal =>
    obtain ⟨q1, b', q2, q3, q4, q5⟩ := q
    obtain ⟨c1, t1, p1⟩ := s'
    exact ⟨⟨(c1 + 1, b'), by simp at q1 ⊢; omega, q2⟩, Ents.go q4 q5, q3⟩
  | _ => exact q

/-! ### Values that may stand for others -/

theorem VEnt.sl {n sz : Nat} {get get' : Nat → List V} (h : ∀ i, i < n → get i = get' i) : VEnt (.sl n sz get) (.sl n sz get') := by
  intro k cv hr
  cases hr with
  | sl0 => exact .sl0 _ _ _ _
  | sl _ _ _ b off cap x hM hb hcap hp hl hc hr =>
    refine .sl _ _ _ b off cap x hM hb hcap ?_ (fun i hi => by rw [← h i hi]; exact hl i hi) hc fun i j v hi hv => hr i j v hi (by rw [h i hi]; exact hv)
    cases hp with
    | sl _ _ _ hp => exact .sl _ _ _ fun i j v hi hv => hp i j v hi (by rw [h i hi]; exact hv)

theorem VEnt.nils (sz : Nat) (get : Nat → List V) : VEnt .nils (.sl 0 sz get) := fun k cv h => by
  rw [h.nils_inv]; exact .sl0 _ _ _ _

theorem VEnt.sl0 {sz : Nat} {get get' : Nat → List V} : VEnt (.sl 0 sz get) (.sl 0 sz get') := VEnt.sl fun i hi => by omega

def LEnt : List V → List V → Prop
  | [], [] => True
  | v :: l, v' :: l' => VEnt v v' ∧ LEnt l l'
  | _, _ => False

theorem LEnt.spec : ∀ {l l' : List V}, LEnt l l' → l'.length = l.length ∧ ∀ (j : Nat) (v' : V), l'[j]? = some v' → ∃ v, l[j]? = some v ∧ VEnt v v'
  | [], [], _ => ⟨rfl, fun j v h => by simp at h⟩
  | v :: l, v' :: l', h => by
    obtain ⟨h1, h2⟩ := LEnt.spec h.2
    refine ⟨by simp [h1], fun j u hu => ?_⟩
    cases j with
    | zero =>
      simp only [List.getElem?_cons_zero, Option.some.injEq] at hu ⊢
      subst hu
      exact ⟨v, rfl, h.1⟩
    | succ j => simpa using h2 j u (by simpa using hu)
  | [], _ :: _, h => h.elim
  | _ :: _, [], h => h.elim

theorem VEnt.tup {l l' : List V} (h : LEnt l l') : VEnt (.tup l) (.tup l') := by
  intro k cv hr
  obtain ⟨h1, h2⟩ := h.spec
  obtain ⟨xs, rfl, hs, hv⟩ := hr.tup_inv
  refine .tup _ _ (by rw [hs, h1]) fun j v' hv' => ?_
  obtain ⟨v, g1, g2⟩ := h2 j v' hv'
  exact g2 _ _ (hv j v g1)

theorem VEnt.agg {l l' : List V} (h : LEnt l l') : VEnt (.agg l) (.agg l') := by
  intro k cv hr
  obtain ⟨h1, h2⟩ := h.spec
  obtain ⟨xs, rfl, hs, hv⟩ := hr.agg_inv
  refine .agg _ _ (by rw [hs, h1]) fun j v' hv' => ?_
  obtain ⟨v, g1, g2⟩ := h2 j v' hv'
  exact g2 _ _ (hv j v g1)
end Go.Fly
end
section
/- Lists as functions of the index; first errors; contracts that need no program. -/
namespace Go.Fly
open Go


/-- Contracts by the numbers of functions. -/
def tab : List (FuncId × Contract) → FuncId → Option Contract
  | [], _ => none
  | (g, C) :: l, f => if f = g then some C else tab l f
def TabOk (P : Program) (G : Nat → V) : List (FuncId × Contract) → Prop
  | [] => True
  | (g, C) :: l => Holds P G g C ∧ TabOk P G l
theorem tab_okG {P : Program} {G : Nat → V} {l : List (FuncId × Contract)} (h : TabOk P G l) : ∀ g C, tab l g = some C → Holds P G g C := by
  induction l with
  | nil => intro g C h; cases h
  | cons p l ih =>
    obtain ⟨g', C'⟩ := p
    intro g C hg
    unfold tab at hg
    split at hg
    · rename_i e; cases hg; subst e; exact h.1
    · exact ih h.2 g C hg
attribute [go_sem] tab tops sets
theorem inK_of {n : Int} (h : -9223372036854775808 ≤ n) (h' : n ≤ 9223372036854775807) : inK .i64 n := ⟨h, h'⟩

def intAt (get : Nat → List V) (i : Nat) : Int := match get i with | [.int _ x] => x | _ => 0
def cell (get : Nat → List V) (i j : Nat) : Int := match (get i)[j]? with | some (.int _ x) => x | _ => 0
def IsInts (n : Nat) (get : Nat → List V) : Prop := n ≤ 9223372036854775807 ∧ ∀ i, i < n → get i = [.int .i64 (intAt get i)]
def IsIv (n : Nat) (get : Nat → List V) : Prop := n ≤ 9223372036854775807 ∧ ∀ i, i < n → get i = [.int .i64 (cell get i 0), .int .i64 (cell get i 1)]
/-- The inner list of an element, in its j-th cell. -/
def inN (get : Nat → List V) (i j : Nat) : Nat := match (get i)[j]? with | some (.sl m _ _) => m | _ => 0
def inG (get : Nat → List V) (i j : Nat) : Nat → List V := match (get i)[j]? with | some (.sl _ _ g) => g | _ => fun _ => []
def IsAir (n : Nat) (get : Nat → List V) : Prop := n ≤ 9223372036854775807 ∧ ∀ i, i < n →
  get i = [.int .i64 (cell get i 0), .int .i64 (cell get i 1), .int .i64 (cell get i 2), .int .i64 (cell get i 3), .sl (inN get i 4) 2 (inG get i 4)] ∧ IsIv (inN get i 4) (inG get i 4)
def IsSet (n : Nat) (get : Nat → List V) : Prop := n ≤ 9223372036854775807 ∧ ∀ i, i < n →
  get i = [.int .i64 (cell get i 0), .sl (inN get i 1) 1 (inG get i 1)] ∧ IsInts (inN get i 1) (inG get i 1)

theorem IsInts.pu {n : Nat} {get : Nat → List V} (h : IsInts n get) : Pu (.sl n 1 get) := pu_sl.2 fun i hi v hv => by
  rw [h.2 i hi, List.mem_singleton] at hv; rw [hv]; exact .int _ _
theorem IsIv.pu {n : Nat} {get : Nat → List V} (h : IsIv n get) : Pu (.sl n 2 get) := pu_sl.2 fun i hi v hv => by
  rw [h.2 i hi] at hv
  simp only [List.mem_cons, List.not_mem_nil, or_false] at hv
  rcases hv with rfl | rfl <;> exact .int _ _
theorem IsAir.pu {n : Nat} {get : Nat → List V} (h : IsAir n get) : Pu (.sl n 5 get) := pu_sl.2 fun i hi v hv => by
  obtain ⟨h1, h2⟩ := h.2 i hi
  rw [h1] at hv
  simp only [List.mem_cons, List.not_mem_nil, or_false] at hv
  rcases hv with rfl | rfl | rfl | rfl | rfl <;> first | exact .int _ _ | exact h2.pu
theorem IsSet.pu {n : Nat} {get : Nat → List V} (h : IsSet n get) : Pu (.sl n 2 get) := pu_sl.2 fun i hi v hv => by
  obtain ⟨h1, h2⟩ := h.2 i hi
  rw [h1] at hv
  simp only [List.mem_cons, List.not_mem_nil, or_false] at hv
  rcases hv with rfl | rfl <;> first | exact .int _ _ | exact h2.pu

/-- The first number that is not 0. -/
def firstI (g : Nat → Int) : Nat → Nat → Int
  | i, 0 => 0
  | i, k + 1 => if g i ≠ 0 then g i else firstI g (i + 1) k

def firstL : List Int → Int
  | [] => 0
  | x :: l => if x ≠ 0 then x else firstL l

theorem firstI_step {g : Nat → Int} {i n : Nat} (h : i < n) : firstI g i (n - i) = if g i ≠ 0 then g i else firstI g (i + 1) (n - (i + 1)) := by
  rw [show n - i = (n - (i + 1)) + 1 by omega]; rfl
theorem firstI_end {g : Nat → Int} {i n : Nat} (h : ¬ i < n) : firstI g i (n - i) = 0 := by
  rw [show n - i = 0 by omega]; rfl

theorem firstL_zero : ∀ {l : List Int}, firstL l = 0 ↔ ∀ x ∈ l, x = 0
  | [] => by simp [firstL]
  | x :: l => by
    unfold firstL
    by_cases h : x = 0
    · simp only [h, ne_eq, not_true_eq_false, if_false, List.mem_cons, forall_eq_or_imp, true_and]
      exact firstL_zero
    · simp [h]

theorem firstI_list : ∀ (l : List Int) (g : Nat → Int) (i : Nat), (∀ j, j < l.length → g (i + j) = l.getD j 0) → firstI g i l.length = firstL l
  | [], g, i, _ => rfl
  | x :: l, g, i, h => by
    have h0 : g i = x := by simpa using h 0 (by simp)
    have := firstI_list l g (i + 1) fun j hj => by
      have := h (j + 1) (by simpa using hj)
      rw [show i + 1 + j = i + (j + 1) by omega, this]
      simp
    simp only [List.length_cons, firstI, firstL, h0, this]

theorem rowInts (l : List Int) (i : Nat) (hi : i < l.length) : rowAt (l.map (V.int .i64)) 1 i = [.int .i64 (l.getD i 0)] := by
  rw [rowAt_def, Nat.mul_one]
  apply List.ext_getElem?
  intro j
  cases j with
  | zero => simp [hi]
  | succ j => simp; omega

theorem isInts_lit (l : List Int) (n : Nat) (hn : n = l.length) (hb : l.length ≤ 1000000000000) : IsInts n (fun i => rowAt (l.map (V.int .i64)) 1 (0 + i)) ∧ firstI (intAt (fun i => rowAt (l.map (V.int .i64)) 1 (0 + i))) 0 n = firstL l := by
  subst hn
  have h1 : ∀ i, i < l.length → intAt (fun i => rowAt (l.map (V.int .i64)) 1 (0 + i)) i = l.getD i 0 := fun i hi => by
    simp only [intAt, Nat.zero_add, rowInts l i hi]
  refine ⟨⟨by omega, fun i hi => ?_⟩, firstI_list l _ 0 fun j hj => by rw [Nat.zero_add]; exact h1 j hj⟩
  rw [h1 i hi]
  simp only [Nat.zero_add, rowInts l i hi]

theorem first_lit1 (a0 : Int) : firstI (intAt fun i => rowAt [V.int .i64 a0] 1 (0 + i)) 0 1 = firstL [a0] := (isInts_lit [a0] 1 rfl (by simp)).2
theorem isInts_lit1 (a0 : Int) : (IsInts 1 fun i => rowAt [V.int .i64 a0] 1 (0 + i)) ↔ True := iff_true_intro (isInts_lit [a0] 1 rfl (by simp)).1
theorem first_lit2 (a0 a1 : Int) : firstI (intAt fun i => rowAt [V.int .i64 a0, V.int .i64 a1] 1 (0 + i)) 0 2 = firstL [a0, a1] := (isInts_lit [a0, a1] 2 rfl (by simp)).2
theorem isInts_lit2 (a0 a1 : Int) : (IsInts 2 fun i => rowAt [V.int .i64 a0, V.int .i64 a1] 1 (0 + i)) ↔ True := iff_true_intro (isInts_lit [a0, a1] 2 rfl (by simp)).1
theorem first_lit3 (a0 a1 a2 : Int) : firstI (intAt fun i => rowAt [V.int .i64 a0, V.int .i64 a1, V.int .i64 a2] 1 (0 + i)) 0 3 = firstL [a0, a1, a2] := (isInts_lit [a0, a1, a2] 3 rfl (by simp)).2
theorem isInts_lit3 (a0 a1 a2 : Int) : (IsInts 3 fun i => rowAt [V.int .i64 a0, V.int .i64 a1, V.int .i64 a2] 1 (0 + i)) ↔ True := iff_true_intro (isInts_lit [a0, a1, a2] 3 rfl (by simp)).1
theorem first_lit4 (a0 a1 a2 a3 : Int) : firstI (intAt fun i => rowAt [V.int .i64 a0, V.int .i64 a1, V.int .i64 a2, V.int .i64 a3] 1 (0 + i)) 0 4 = firstL [a0, a1, a2, a3] := (isInts_lit [a0, a1, a2, a3] 4 rfl (by simp)).2
theorem isInts_lit4 (a0 a1 a2 a3 : Int) : (IsInts 4 fun i => rowAt [V.int .i64 a0, V.int .i64 a1, V.int .i64 a2, V.int .i64 a3] 1 (0 + i)) ↔ True := iff_true_intro (isInts_lit [a0, a1, a2, a3] 4 rfl (by simp)).1
theorem first_lit5 (a0 a1 a2 a3 a4 : Int) : firstI (intAt fun i => rowAt [V.int .i64 a0, V.int .i64 a1, V.int .i64 a2, V.int .i64 a3, V.int .i64 a4] 1 (0 + i)) 0 5 = firstL [a0, a1, a2, a3, a4] := (isInts_lit [a0, a1, a2, a3, a4] 5 rfl (by simp)).2
theorem isInts_lit5 (a0 a1 a2 a3 a4 : Int) : (IsInts 5 fun i => rowAt [V.int .i64 a0, V.int .i64 a1, V.int .i64 a2, V.int .i64 a3, V.int .i64 a4] 1 (0 + i)) ↔ True := iff_true_intro (isInts_lit [a0, a1, a2, a3, a4] 5 rfl (by simp)).1
theorem first_lit6 (a0 a1 a2 a3 a4 a5 : Int) : firstI (intAt fun i => rowAt [V.int .i64 a0, V.int .i64 a1, V.int .i64 a2, V.int .i64 a3, V.int .i64 a4, V.int .i64 a5] 1 (0 + i)) 0 6 = firstL [a0, a1, a2, a3, a4, a5] := (isInts_lit [a0, a1, a2, a3, a4, a5] 6 rfl (by simp)).2
theorem isInts_lit6 (a0 a1 a2 a3 a4 a5 : Int) : (IsInts 6 fun i => rowAt [V.int .i64 a0, V.int .i64 a1, V.int .i64 a2, V.int .i64 a3, V.int .i64 a4, V.int .i64 a5] 1 (0 + i)) ↔ True := iff_true_intro (isInts_lit [a0, a1, a2, a3, a4, a5] 6 rfl (by simp)).1
theorem first_lit7 (a0 a1 a2 a3 a4 a5 a6 : Int) : firstI (intAt fun i => rowAt [V.int .i64 a0, V.int .i64 a1, V.int .i64 a2, V.int .i64 a3, V.int .i64 a4, V.int .i64 a5, V.int .i64 a6] 1 (0 + i)) 0 7 = firstL [a0, a1, a2, a3, a4, a5, a6] := (isInts_lit [a0, a1, a2, a3, a4, a5, a6] 7 rfl (by simp)).2
theorem isInts_lit7 (a0 a1 a2 a3 a4 a5 a6 : Int) : (IsInts 7 fun i => rowAt [V.int .i64 a0, V.int .i64 a1, V.int .i64 a2, V.int .i64 a3, V.int .i64 a4, V.int .i64 a5, V.int .i64 a6] 1 (0 + i)) ↔ True := iff_true_intro (isInts_lit [a0, a1, a2, a3, a4, a5, a6] 7 rfl (by simp)).1
theorem first_lit8 (a0 a1 a2 a3 a4 a5 a6 a7 : Int) : firstI (intAt fun i => rowAt [V.int .i64 a0, V.int .i64 a1, V.int .i64 a2, V.int .i64 a3, V.int .i64 a4, V.int .i64 a5, V.int .i64 a6, V.int .i64 a7] 1 (0 + i)) 0 8 = firstL [a0, a1, a2, a3, a4, a5, a6, a7] := (isInts_lit [a0, a1, a2, a3, a4, a5, a6, a7] 8 rfl (by simp)).2
theorem isInts_lit8 (a0 a1 a2 a3 a4 a5 a6 a7 : Int) : (IsInts 8 fun i => rowAt [V.int .i64 a0, V.int .i64 a1, V.int .i64 a2, V.int .i64 a3, V.int .i64 a4, V.int .i64 a5, V.int .i64 a6, V.int .i64 a7] 1 (0 + i)) ↔ True := iff_true_intro (isInts_lit [a0, a1, a2, a3, a4, a5, a6, a7] 8 rfl (by simp)).1
attribute [go_sem] first_lit1 isInts_lit1 first_lit2 isInts_lit2 first_lit3 isInts_lit3 first_lit4 isInts_lit4 first_lit5 isInts_lit5 first_lit6 isInts_lit6 first_lit7 isInts_lit7 first_lit8 isInts_lit8
theorem pu_sl1 (n sz : Nat) (k : IntKind) (f : Nat → Int) : Pu (.sl n sz fun i => [.int k (f i)]) ↔ True := iff_true_intro (pu_sl.2 fun i _ v hv => by rw [List.mem_singleton.1 hv]; exact .int _ _)
theorem pu_sl2 (n sz : Nat) (k : IntKind) (f g : Nat → Int) : Pu (.sl n sz fun i => [.int k (f i), .int k (g i)]) ↔ True := iff_true_intro (pu_sl.2 fun i _ v hv => by
  simp only [List.mem_cons, List.not_mem_nil, or_false] at hv
  rcases hv with rfl | rfl <;> exact .int _ _)
theorem intAt_fn (k : IntKind) (f : Nat → Int) : intAt (fun i => [.int k (f i)]) = f := rfl
theorem toNat_zero' : Int.toNat 0 = 0 := rfl
attribute [go_sem] Int.reduceToNat toNat_zero' pu_sl1 pu_sl2 intAt_fn forall_eq_or_imp forall_eq List.all_cons List.all_nil Bool.and_true Bool.true_and Bool.and_self iceC
def rng (x a b : Int) : Int := if x < a ∨ b < x then 3 else 0
def err (c : Bool) (e : Int) : Int := if c = true then e else 0
theorem rng_zero {x a b : Int} : rng x a b = 0 ↔ a ≤ x ∧ x ≤ b := by unfold rng; split <;> omega
theorem err_zero {c : Bool} {e : Int} (h : e ≠ 0) : err c e = 0 ↔ c = false := by unfold err; cases c <;> simp [h]

def whenC : Contract := fun _ args =>
  match args with
  | [.bool b, .int .i64 e] => ⟨True, .int .i64 (err b e), none⟩
  | _ => ⟨False, .top, none⟩

def withinC : Contract := fun _ args =>
  match args with
  | [.int .i64 n, .int .i64 a, .int .i64 b] => ⟨True, .int .i64 (rng n a b), none⟩
  | _ => ⟨False, .top, none⟩

def firstC : Contract := fun _ args =>
  match args with
  | [.sl n sz get] => ⟨sz = 1 ∧ IsInts n get, .int .i64 (firstI (intAt get) 0 n), none⟩
  | _ => ⟨False, .top, none⟩
attribute [go_sem] whenC withinC firstC
/-- A contract of one number. -/
def int1C (f : Int → Int) : Contract := fun _ args =>
  match args with
  | [.int .i64 x] => ⟨True, .int .i64 (f x), none⟩
  | _ => ⟨False, .top, none⟩
attribute [go_sem] int1C
def ivE (lo hi most : Int) : Int := firstL [rng lo 0 most, rng hi 0 most, err (decide (hi < lo)) 11]
def intervalC : Contract := fun _ args =>
  match args with
  | [.agg [.int .i64 lo, .int .i64 hi], .int .i64 most] => ⟨True, .int .i64 (ivE lo hi most), none⟩
  | _ => ⟨False, .top, none⟩
def ivC (most : Int) : Contract := fun _ args =>
  match args with
  | [.agg [.int .i64 lo, .int .i64 hi]] => ⟨True, .int .i64 (ivE lo hi most), none⟩
  | _ => ⟨False, .top, none⟩
attribute [go_sem] intervalC ivC
end Go.Fly
end
