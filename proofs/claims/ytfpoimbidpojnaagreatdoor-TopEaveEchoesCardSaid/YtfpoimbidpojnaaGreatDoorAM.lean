/- Part of a proof: an evaluator of the model's code by abstract values, and plain laws for it. No conditions. -/
import Derived.Test.YtfpoimbidpojnaaGreatDoorAL
import Derived.Test.YtfpoimbidpojnaaGreatDoorAJ
import Derived.Test.YtfpoimbidpojnaaGreatDoorAE
set_option linter.unusedSimpArgs false
set_option linter.unusedVariables false
section
/- A path and its way back; what fits. -/
namespace Go.Fly
open Go

theorem part_sym {n : Nat} {get : Nat → List V} {c f : Int} {i : Nat} : partE n get (min f c) (max f c) f i = partE n get (min c f) (max c f) c i := by
  have h1 : min f c = min c f := by omega
  have h2 : max f c = max c f := by omega
  rw [h1, h2]
  unfold partE
  by_cases h : max c f - min c f = 0
  · have : f = c := by omega
    rw [this]
  · rw [if_neg h, if_neg h]
theorem stepLo_sym {n : Nat} {get : Nat → List V} {sq c f : Int} {i : Nat} : stepLo n get sq (min f c) (max f c) f i = stepLo n get sq (min c f) (max c f) c i := by
  have h1 : min f c = min c f := by omega
  have h2 : max f c = max c f := by omega
  unfold stepLo
  rw [part_sym, h1, h2]
theorem stepHi_sym {n : Nat} {get : Nat → List V} {sq c f : Int} {i : Nat} : stepHi n get sq (min f c) (max f c) f i = stepHi n get sq (min c f) (max c f) c i := by
  have h1 : min f c = min c f := by omega
  have h2 : max f c = max c f := by omega
  unfold stepHi
  rw [part_sym, h1, h2]
end Go.Fly
end
section
/- A receiver that is twice as far away; layers that let less pass; energies that are halved. -/
namespace Go.Fly
open Go

/-! ### Roots -/

theorem rtN_mono {x y : Nat} (h : x ≤ y) : rtN x x ≤ rtN y y := by
  have a := rtN_sq x x
  rcases Nat.lt_or_ge (rtN y y) (rtN x x) with e | e
  · have b := rtN_up y y (Nat.le_refl _)
    have : (rtN y y + 1) * (rtN y y + 1) ≤ rtN x x * rtN x x := Nat.mul_le_mul e e
    omega
  · exact e
theorem rootE_mono {s s' t : Int} (h : s ≤ s') : rootE s t ≤ rootE s' t := by
  unfold rootE
  exact_mod_cast rtN_mono (Nat.div_le_div_right (by omega : s.toNat ≤ s'.toNat))
theorem rootUp_mono {s s' t : Int} (hs : 0 ≤ s) (ht : 0 < t) (h : s ≤ s') : rootUp s t ≤ rootUp s' t := by
  have hm := rootE_mono (t := t) h
  unfold rootUp
  by_cases e : rootE s t = rootE s' t
  · rw [e]
    by_cases h1 : rootE s' t * rootE s' t * t < s
    · rw [if_pos h1, if_pos (by omega)]; omega
    · rw [if_neg h1]; split <;> omega
  · split <;> split <;> omega

/-! ### Steps -/

/-! ### What passes -/

theorem pass_mono {get get' : Nat → List V} {s1 s2 : Nat → Int} {b : Nat} : ∀ {n : Nat}, (∀ i, i < n → 0 ≤ s1 i ∧ s1 i ≤ s2 i) →
    (∀ i, i < n → 0 ≤ cell (inG get' i 4) b 0 ∧ cell (inG get' i 4) b 0 ≤ cell (inG get i 4) b 0 ∧ cell (inG get i 4) b 0 ≤ 1000) →
    0 ≤ passLo get' s2 b n ∧ passLo get' s2 b n ≤ passLo get s1 b n
  | 0, _, _ => by simp [passLo]
  | n + 1, hs, h => by
    have ih := pass_mono (n := n) (fun i hi => hs i (by omega)) (fun i hi => h i (by omega))
    have hn := h n (by omega)
    have hk := hs n (by omega)
    simp only [passLo]
    have a := down_bd hn.1 (by omega : cell (inG get' n 4) b 0 ≤ 1000) (k := (s2 n).toNat) ih.1
    have c := down_le hn.1 (by omega : cell (inG get' n 4) b 0 ≤ 1000) (k := (s1 n).toNat) (j := (s2 n).toNat) ih.1 (by omega)
    have d := down_mono hn.1 hn.2.1 (k := (s1 n).toNat) ih.1 ih.2
    omega
theorem pass_mono' {get get' : Nat → List V} {s1 s2 : Nat → Int} {b : Nat} : ∀ {n : Nat}, (∀ i, i < n → 0 ≤ s1 i ∧ s1 i ≤ s2 i) →
    (∀ i, i < n → 0 ≤ cell (inG get' i 4) b 1 ∧ cell (inG get' i 4) b 1 ≤ cell (inG get i 4) b 1 ∧ cell (inG get i 4) b 1 ≤ 1000) →
    0 ≤ passHi get' s2 b n ∧ passHi get' s2 b n ≤ passHi get s1 b n
  | 0, _, _ => by simp [passHi]
  | n + 1, hs, h => by
    have ih := pass_mono' (n := n) (fun i hi => hs i (by omega)) (fun i hi => h i (by omega))
    have hn := h n (by omega)
    have hk := hs n (by omega)
    simp only [passHi]
    have a := up_bd hn.1 (by omega : cell (inG get' n 4) b 1 ≤ 1000) (k := (s2 n).toNat) ih.1
    have c := up_le hn.1 (by omega : cell (inG get' n 4) b 1 ≤ 1000) (k := (s1 n).toNat) (j := (s2 n).toNat) ih.1 (by omega)
    have d := up_mono hn.1 hn.2.1 (k := (s1 n).toNat) ih.1 ih.2
    omega
/-! ### Layers that let less pass -/

/-! ### What is heard -/

end Go.Fly
end
section
/- Calls that are walked where they stand; loops that keep what depends on the names; all that the call owns read out. -/
namespace Go.Fly
open Go

def finK (v : Option V) (s : St) (Kn : V → St → Prop) : Prop := match v with
  | some v => Kn v s
  | none => False
theorem finK_some {v : V} {s : St} {Kn : V → St → Prop} : finK (some v) s Kn = Kn v s := by rw [finK]
@[congr] theorem finK_congr {v v' : Option V} {s : St} {Kn : V → St → Prop} (h : v = v') : finK v s Kn = finK v' s Kn := by subst h; rfl
theorem inQ_one {X : Cx} {r : ResultVar} {Kn : V → St → Prop} {s : St} {e : Exit} (he : e = .normal ∨ e = .ret) : inQ X [r] Kn e s = finK (res1 X s r) s Kn := by
  have key : (∃ v, resultV X s [r] = some v ∧ Kn v s) = finK (res1 X s r) s Kn := by
    unfold resultV resL finK
    cases h : res1 X s r with
    | none => simp [resL]
    | some v => simp [resL]
  rcases he with rfl | rfl <;> rw [inQ] <;> exact key
theorem inQ_normal1 {X : Cx} {r : ResultVar} {Kn : V → St → Prop} {s : St} : inQ X [r] Kn .normal s = finK (res1 X s r) s Kn := inQ_one (.inl rfl)
theorem inQ_ret1 {X : Cx} {r : ResultVar} {Kn : V → St → Prop} {s : St} : inQ X [r] Kn .ret s = finK (res1 X s r) s Kn := inQ_one (.inr rfl)
attribute [go_sem] finK_some inQ_normal1 inQ_ret1
theorem T.post {X : Cx} {c : Code} {s : St} {Q : Exit → St → Prop} (h : T X c s (fun e s' => ∃ s2, Ents X.k0 s' s2 ∧ Q e s2)) : T X c s Q :=
  fun a w hr => wpIn_mono (h a w hr) fun e a' w' ⟨s', ⟨s2, h1, h2⟩, h3⟩ => ⟨s2, h2, h1 a' w' h3⟩

/-- Slot by slot the same, nothing, or what it holds read out. -/
def frzLe (hp : Heap) : List V → List V → Prop
  | [], [] => True
  | v :: l, v' :: l' => (v' = .top ∨ v' = v ∨ VEnt (frz 5 hp v) v') ∧ frzLe hp l l'
  | _, _ => False
theorem frzLe.spec {hp : Heap} : ∀ {l l' : List V}, frzLe hp l l' → l'.length = l.length ∧ ∀ (d : Nat) (v' : V), l'[d]? = some v' → ∃ v, l[d]? = some v ∧ (v' = .top ∨ v' = v ∨ VEnt (frz 5 hp v) v')
  | [], [], _ => ⟨rfl, fun d v h => by simp at h⟩
  | v :: l, v' :: l', h => by
    obtain ⟨h1, h2⟩ := frzLe.spec h.2
    refine ⟨by simp [h1], fun d u hu => ?_⟩
    cases d with
    | zero =>
      simp only [List.getElem?_cons_zero, Option.some.injEq] at hu ⊢
      subst hu
      exact ⟨v, rfl, h.1⟩
    | succ d => simpa using h2 d u (by simpa using hu)
  | [], _ :: _, h => h.elim
  | _ :: _, [], h => h.elim

end Go.Fly
end
section
/- Contracts of the law on what is farther; airs that let less pass, types that are quieter. -/
namespace Go.Fly
open Go

/-- What passes on a path. -/
def passed2C : Contract := fun _ args =>
  match args with
  | [.sl n sz get, .agg [.int .i64 a, .int .i64 b, .int .i64 c, .int .i64 d, .int .i64 e, .int .i64 f]] =>
    ⟨sz = 5 ∧ IsAir n get ∧ airE n get = 0 ∧ PathOk a b c d e f,
      .tup [.sl (inN get 0 4) 2 (fun i => [.int .i64 (pLo n get a b c d e f i), .int .i64 (pHi n get a b c d e f i)]), .int .i64 0], none⟩
  | _ => ⟨False, .top, none⟩
attribute [go_sem] passed2C
/-! ### Lists of lists that are being made -/

theorem snocN {f f' : Nat → List V} {cells : List V} {sz i j : Nat} (hl : cells.length = sz) (h : f' i = cells) (hf : ∀ k, k < i → f' k = f k) (hj : j < i + 1) : f' j = if j < i then f j else rowAt cells sz (0 + (j - i)) := by
  by_cases e : j < i
  · rw [if_pos e]; exact hf j e
  · obtain rfl : j = i := by omega
    rw [if_neg e, rowOne hl (by omega), h]

structure NA where
  i : Nat
  nu : Nat → Loc
  H : Heap
/-- What is kept: the outer list, at L, of the rows so far; the inner ones; what lay before. -/
structure NInv (L : Loc) (sz : Nat) (row : (Nat → Loc) → Nat → List V) (szI : Nat) (m : Nat → Nat) (g : Nat → Nat → List V) (base : Heap) (cb n ck : Nat) (b : NA) : Prop where
  le : b.i ≤ n
  outer : b.H L = some (.arr b.i sz (row b.nu))
  inner : ∀ j, j < b.i → b.H (b.nu j) = some (.arr (m j) szI (g j))
  lo : ∀ j, j < b.i → cb < (b.nu j).1
  hi : ∀ j, j < b.i → (b.nu j).1 < ck
  ne : ∀ j, j < b.i → b.nu j ≠ L
  inj : ∀ j k, j < b.i → k < b.i → b.nu j = b.nu k → j = k
  base : ∀ l, l.1 ≤ cb → b.H l = base l
  free : ∀ l, ck ≤ l.1 → b.H l = none

theorem NInv.mono {L : Loc} {sz : Nat} {row : (Nat → Loc) → Nat → List V} {szI : Nat} {m : Nat → Nat} {g : Nat → Nat → List V} {base : Heap} {cb n ck ck' : Nat} {b : NA} (h : NInv L sz row szI m g base cb n ck b) (hc : ck ≤ ck') : NInv L sz row szI m g base cb n ck' b :=
  ⟨h.le, h.outer, h.inner, h.lo, fun j hj => Nat.lt_of_lt_of_le (h.hi j hj) hc, h.ne, h.inj, h.base, fun l hl => h.free l (Nat.le_trans hc hl)⟩
/-- Before the first row. -/
theorem NInv.start {L : Loc} {sz : Nat} {row : (Nat → Loc) → Nat → List V} {szI : Nat} {m : Nat → Nat} {g : Nat → Nat → List V} {base : Heap} {cb n ck : Nat} {nu : Nat → Loc} (hL : cb < L.1) (hL2 : L.1 < ck) (hf : ∀ l, cb < l.1 → base l = none) :
    NInv L sz row szI m g base cb n ck ⟨0, nu, updH base L (.arr 0 sz (row nu))⟩ := by
  refine ⟨Nat.zero_le _, updH_same _ _ _, fun j hj => absurd hj (Nat.not_lt_zero _), fun j hj => absurd hj (Nat.not_lt_zero _), fun j hj => absurd hj (Nat.not_lt_zero _), fun j hj => absurd hj (Nat.not_lt_zero _), fun j k hj => absurd hj (Nat.not_lt_zero _), fun l hl => ?_, fun l hl => ?_⟩
  · show updH _ _ _ l = _
    rw [updH_ne (by rintro rfl; omega)]
  · show updH _ _ _ l = _
    rw [updH_ne (by rintro rfl; omega)]
    exact hf l (by omega)
/-- Another object of the call's own changes. -/
theorem NInv.box {L : Loc} {sz : Nat} {row : (Nat → Loc) → Nat → List V} {szI : Nat} {m : Nat → Nat} {g : Nat → Nat → List V} {base : Heap} {cb n ck : Nat} {b : NA} (h : NInv L sz row szI m g base cb n ck b) {l0 : Loc} {o : AObj}
    (h1 : cb < l0.1) (h2 : l0.1 < ck) (h3 : L ≠ l0) (h4 : ∀ j, j < b.i → b.nu j ≠ l0) : NInv L sz row szI m g base cb n ck ⟨b.i, b.nu, updH b.H l0 o⟩ := by
  refine ⟨h.le, ?_, fun j hj => ?_, h.lo, h.hi, h.ne, h.inj, fun l hl => ?_, fun l hl => ?_⟩
  · show updH _ _ _ L = _
    rw [updH_ne h3]
    exact h.outer
  · show updH _ _ _ (b.nu j) = _
    rw [updH_ne (h4 j hj)]
    exact h.inner j hj
  · show updH _ _ _ l = _
    rw [updH_ne (by rintro rfl; omega)]
    exact h.base l hl
  · show updH _ _ _ l = _
    rw [updH_ne (by rintro rfl; omega)]
    exact h.free l hl
def updN (nu : Nat → Loc) (i : Nat) (l : Loc) : Nat → Loc := fun j => if j = i then l else nu j
theorem updN_same {nu : Nat → Loc} {i : Nat} {l : Loc} : updN nu i l i = l := if_pos rfl
theorem updN_ne {nu : Nat → Loc} {i j : Nat} {l : Loc} (h : j ≠ i) : updN nu i l j = nu j := if_neg h
/-- One row more. -/
theorem NInv.snoc {L : Loc} {sz : Nat} {row : (Nat → Loc) → Nat → List V} {szI : Nat} {m : Nat → Nat} {g : Nat → Nat → List V} {base : Heap} {cb n ck ck' : Nat} {b : NA} (h : NInv L sz row szI m g base cb n ck b) {l : Loc}
    (hin : b.i < n) (hl : ck ≤ l.1) (hl2 : l.1 < ck') (hL : cb < L.1) (hL2 : L.1 < ck) (hrow : ∀ nu nu' j, nu j = nu' j → row nu j = row nu' j) :
    NInv L sz row szI m g base cb n ck' ⟨b.i + 1, updN b.nu b.i l, updH (updH b.H l (.arr (m b.i) szI (g b.i))) L (.arr (b.i + 1) sz (row (updN b.nu b.i l)))⟩ := by
  have hcb : cb < l.1 := by omega
  have hlL : l ≠ L := fun e => by subst e; omega
  have hnl : ∀ j, j < b.i → b.nu j ≠ l := fun j hj e => by have := h.hi j hj; rw [e] at this; omega
  have key : ∀ j, j < b.i + 1 → (j < b.i ∧ updN b.nu b.i l j = b.nu j) ∨ (j = b.i ∧ updN b.nu b.i l j = l) := fun j hj => by
    by_cases e : j = b.i
    · exact .inr ⟨e, by subst e; exact updN_same⟩
    · exact .inl ⟨by omega, updN_ne e⟩
  refine ⟨Nat.succ_le_of_lt hin, updH_same _ _ _, fun j hj => ?_, fun j hj => ?_, fun j hj => ?_, fun j hj => ?_, fun j k hj hk e => ?_, fun l' hl' => ?_, fun l' hl' => ?_⟩
  · rcases key j hj with ⟨h1, h2⟩ | ⟨rfl, h2⟩
    · show updH _ _ _ (updN b.nu b.i l j) = _
      rw [h2, updH_ne (h.ne j h1), updH_ne (hnl j h1)]
      exact h.inner j h1
    · show updH _ _ _ (updN b.nu b.i l b.i) = _
      rw [h2, updH_ne hlL, updH_same]
  · show cb < (updN b.nu b.i l j).1
    rcases key j hj with ⟨h1, h2⟩ | ⟨rfl, h2⟩ <;> rw [h2]
    · exact h.lo j h1
    · exact hcb
  · show (updN b.nu b.i l j).1 < ck'
    rcases key j hj with ⟨h1, h2⟩ | ⟨rfl, h2⟩ <;> rw [h2]
    · have := h.hi j h1; omega
    · exact hl2
  · show updN b.nu b.i l j ≠ L
    rcases key j hj with ⟨h1, h2⟩ | ⟨rfl, h2⟩ <;> rw [h2]
    · exact h.ne j h1
    · exact hlL
  · have e' : updN b.nu b.i l j = updN b.nu b.i l k := e
    rcases key j hj with ⟨h1, h2⟩ | ⟨rfl, h2⟩ <;> rcases key k hk with ⟨h3, h4⟩ | ⟨rfl, h4⟩ <;> first | rw [h2, h4] at e' | skip
    · exact h.inj j k h1 h3 e'
    · exact absurd e' (hnl j h1)
    · exact absurd e'.symm (hnl k h3)
    · rfl
  · show updH _ _ _ l' = _
    rw [updH_ne (by rintro rfl; omega), updH_ne (by rintro rfl; omega)]
    exact h.base l' hl'
  · show updH _ _ _ l' = _
    rw [updH_ne (by rintro rfl; omega), updH_ne (by rintro rfl; omega)]
    exact h.free l' (by omega)

/-! ### Lists of lists that are written, and read out -/

theorem frzLe.refl {hp : Heap} : ∀ {l : List V}, frzLe hp l l
  | [] => trivial
  | _ :: l => ⟨.inr (.inl rfl), frzLe.refl (l := l)⟩
theorem frzLe.set {hp : Heap} {u v' : V} : ∀ {l l' : List V} {d : Nat}, frzLe hp l l' → l[d]? = some u → VEnt (frz 5 hp u) v' → frzLe hp l (l'.set d v')
  | [], [], d, h, hd, _ => by simp at hd
  | v :: l, w :: l', 0, h, hd, hv => by
    simp only [List.getElem?_cons_zero, Option.some.injEq] at hd
    subst hd
    exact ⟨.inr (.inr hv), h.2⟩
  | v :: l, w :: l', d + 1, h, hd, hv => ⟨h.1, frzLe.set h.2 (by simpa using hd) hv⟩
  | [], _ :: _, _, h, _, _ => h.elim
  | _ :: _, [], _, h, _, _ => h.elim

theorem HpLe.same {hp : Heap} {l : Loc} {a b : AObj} (h : ObjLe a b) : HpLe (updH hp l a) (updH hp l b) := by
  intro l' o' h'
  by_cases e : l' = l
  · subst e
    rw [updH_same] at h' ⊢
    cases h'
    exact ⟨a, rfl, h⟩
  · rw [updH_ne e] at h' ⊢
    exact ⟨o', h', ObjLe.refl _⟩
end Go.Fly
end
