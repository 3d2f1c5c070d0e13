/- Part of a proof: an evaluator of the model's code by abstract values, and plain laws for it. No conditions. -/
import Derived.Test.YtmlknpghkclffaaGreatDoorAI
import Derived.Test.YtmlknpghkclffaaGreatDoorAJ
import Derived.Test.YtmlknpghkclffaaGreatDoorAE
import Derived.Test.YtmlknpghkclffaaGreatDoorAH
import Derived.MapKept
set_option linter.unusedSimpArgs false
set_option linter.unusedVariables false
section
/- Contracts of the verifier's functions. -/
namespace Go.Fly
open Go

theorem app0 {f g : Nat → List V} : (fun i => if i < 0 then f i else g (i - 0)) = g := by funext i; simp
theorem ivs_ok {n : Nat} {g : Nat → List V} (h : IsIv n g) : ∀ i, i < n → ∀ v, v ∈ g i → Pu v ∧ oneC v = true := fun i hi v hv => by
  rw [h.2 i hi] at hv; exact ones2 v hv
end Go.Fly
end
section
/- Bounds of steps and transmittances. -/
namespace Go.Fly
open Go

theorem cell_fn0 {k k2 : IntKind} {f g : Nat → Int} {i : Nat} : cell (fun i => [V.int k (f i), V.int k2 (g i)]) i 0 = f i := rfl
theorem cell_fn1 {k k2 : IntKind} {f g : Nat → Int} {i : Nat} : cell (fun i => [V.int k (f i), V.int k2 (g i)]) i 1 = g i := rfl
theorem cast3 : ((3 : Nat) : Int) = 3 := rfl
attribute [go_sem] cell_fn0 cell_fn1 cast3
theorem part_bd {n : Nat} {get : Nat → List V} {z0 z1 flat : Int} {i : Nat} (hz : z0 ≤ z1) : 0 ≤ partE n get z0 z1 flat i ∧ partE n get z0 z1 flat i ≤ byE z0 z1 ∧ 1 ≤ byE z0 z1 := by
  unfold partE byE
  by_cases h : z1 - z0 = 0
  · rw [if_pos h, if_pos h]
    split <;> omega
  · rw [if_neg h, if_neg h]
    have := over_le (bot := botE get i) (top := topE n get i) hz
    omega
theorem pass_le {get : Nat → List V} {hl hh : Nat → Int} {b : Nat} (hst : ∀ i, 0 ≤ hh i ∧ hh i ≤ hl i) : ∀ {n : Nat}, (∀ i, i < n → 0 ≤ cell (inG get i 4) b 0 ∧ cell (inG get i 4) b 0 ≤ cell (inG get i 4) b 1 ∧ cell (inG get i 4) b 1 ≤ 1000) →
    passLo get hl b n ≤ passHi get hh b n
  | 0, _ => by simp [passLo, passHi]
  | n + 1, h => by
    have ih := pass_le (hl := hl) (hh := hh) hst (n := n) fun i hi => h i (by omega)
    have hn := h n (by omega)
    have hb := pass_bd (get := get) (hl := hl) (hh := hh) (b := b) (n := n) fun i hi => by have := h i (by omega); omega
    have hk := hst n
    simp only [passLo, passHi]
    have a := down_le hn.1 (show cell (inG get n 4) b 0 ≤ 1000 by omega) (k := (hh n).toNat) (j := (hl n).toNat) hb.1.1 (by omega)
    have c := down_up hn.1 (k := (hh n).toNat) hb.1.1
    have d := up_mono hn.1 hn.2.1 (k := (hh n).toNat) hb.1.1 ih
    omega
end Go.Fly
end
section
/- A path and its way back; what fits. -/
namespace Go.Fly
open Go

theorem sqE_sym (a b c d e f : Int) : sqE d e f a b c = sqE a b c d e f := by
  have h : ∀ u v : Int, (u - v) * (u - v) = (v - u) * (v - u) := fun u v => by
    rw [show u - v = -(v - u) by omega, Int.neg_mul_neg]
  unfold sqE
  rw [h a d, h b e, h c f]
theorem PathOk.back {a b c d e f : Int} (h : PathOk a b c d e f) : PathOk d e f a b c := ⟨h.2.1, h.1, fun q => h.2.2 ⟨q.1.symm, q.2.1.symm, q.2.2.symm⟩⟩
end Go.Fly
end
section
/- Walls: what screens; lengths; tables. -/
namespace Go.Fly
open Go

/-- The name of a wall. -/
def wName (get : Nat → List V) (i : Nat) : List UInt8 := match (get i)[0]? with | some (V.str s) => s | _ => []
def IsWalls (n : Nat) (get : Nat → List V) : Prop := n ≤ 9223372036854775807 ∧ ∀ i, i < n →
  get i = [.str (wName get i), .int .i64 (cell get i 1), .int .i64 (cell get i 2), .int .i64 (cell get i 3), .int .i64 (cell get i 4), .int .i64 (cell get i 5), .int .i64 (cell get i 6)] ∧ (wName get i).length ≤ 9223372036854775807
theorem IsWalls.pu {n : Nat} {get : Nat → List V} (h : IsWalls n get) : Pu (.sl n 7 get) := pu_sl.2 fun i hi v hv => by
  rw [(h.2 i hi).1] at hv
  simp only [List.mem_cons, List.not_mem_nil, or_false] at hv
  rcases hv with rfl | rfl | rfl | rfl | rfl | rfl | rfl <;> first | exact .int _ _ | exact .str _

/-! ### There and back -/

/-! ### Tables -/

structure TabOk2 (n : Nat) (get : Nat → List V) : Prop where
  cnt : 0 < n ∧ n ≤ 16
  from_ : ∀ i, i < n → 1 ≤ cell get i 0 ∧ cell get i 0 ≤ 1000000
  fac : ∀ i, i < n → 0 ≤ cell get i 1 ∧ cell get i 1 ≤ 1000
  up : ∀ i, i + 1 < n → cell get i 0 < cell get (i + 1) 0
  down : ∀ i, i + 1 < n → cell get (i + 1) 1 ≤ cell get i 1
end Go.Fly
end
section
/- A receiver that is twice as far away; layers that let less pass; energies that are halved. -/
namespace Go.Fly
open Go

/-! ### Roots -/

/-! ### Steps -/

/-! ### What passes -/

/-! ### Layers that let less pass -/

theorem bot_congr {get get' : Nat → List V} : ∀ {i : Nat}, (∀ j, j < i → cell get' j 0 = cell get j 0) → botE get' i = botE get i
  | 0, _ => rfl
  | i + 1, h => by simp only [botE]; rw [bot_congr fun j hj => h j (by omega), h i (by omega)]
theorem top_congr {n : Nat} {get get' : Nat → List V} {i : Nat} (h : ∀ j, j ≤ i → cell get' j 0 = cell get j 0) : topE n get' i = topE n get i := by
  unfold topE
  rw [bot_congr fun j hj => h j (by omega), h i (by omega)]
theorem idxF_congr {p q : Nat → Bool} : ∀ {k i : Nat}, (∀ j, i ≤ j → j < i + k → p j = q j) → idxF p i k = idxF q i k
  | 0, i, _ => rfl
  | k + 1, i, h => by
    unfold idxF
    rw [h i (by omega) (by omega), idxF_congr fun j h1 h2 => h j (by omega) (by omega)]
/-! ### What is heard -/

end Go.Fly
end
section
/- Calls that are walked where they stand; loops that keep what depends on the names; all that the call owns read out. -/
namespace Go.Fly
open Go

/-- A call whose body is walked with what the caller owns. -/
theorem CallT.inline {X : Cx} (hX : X.Ok) {f : FuncId} {fn : Func} {c : Code} (hf : X.P.funcs[f]? = some fn) (hb : fn.body = some c) (hm : X.P.follows .mixedOrders = true) {D : Tabs} (hd : drawsOk D c = true)
    (Γ : FuncId → Option Contract) (hΓ : ∀ g C, Γ g = some C → Holds X.P X.G g C) {hp : Heap} {ck : Nat} {args : List V} {Kn : V → Heap → Nat → Prop}
    (h : ∀ k1, exC ⟨X.P, Γ, X.G, none, k1⟩ D c ⟨ck + 1, args ++ List.replicate (fn.ntmps - args.length) .top, hp⟩ (inQ ⟨X.P, Γ, X.G, none, k1⟩ fn.results.toList fun v s' => Kn v s'.hp s'.ck)) : CallT X hp ck f args Kn := by
  intro w M B vs hst hho hargs
  have hG0 : ∀ g, R (mkK w M B hp ck) (X.G g) (.pointer (some ⟨g, 0, none⟩)) := fun g => (hX.G0 g).step hst hX.own
  have hX1 : (⟨X.P, Γ, X.G, none, mkK w M B hp ck⟩ : Cx).Ok := ⟨hΓ, hX.G, hG0, fun b hb => (hho.own b hb).1⟩
  refine (calls_of_T hf hb hΓ hX.G hho hG0 hargs (Kn := fun v s' => Kn v s'.hp s'.ck) (exC_ok hX1 hm c _ _ hd (h (mkK w M B hp ck)))).mono fun e w' ⟨rv, v, s', M', B', h1, h2, h3, h4, h5⟩ => ?_
  exact ⟨rv, v, s'.hp, s'.ck, M', B', h1, h2, h3, h4, h5⟩

def finK (v : Option V) (s : St) (Kn : V → St → Prop) : Prop := match v with
  | some v => Kn v s
  | none => False
theorem finK_some {v : V} {s : St} {Kn : V → St → Prop} : finK (some v) s Kn = Kn v s := by rw [finK]
@[congr] theorem finK_congr {v v' : Option V} {s : St} {Kn : V → St → Prop} (h : v = v') : finK v s Kn = finK v' s Kn := by subst h; rfl
theorem inQ_one {X : Cx} {r : ResultVar} {Kn : V → St → Prop} {s : St} {e : Exit} (he : e = .normal ∨ e = .ret) : inQ X [r] Kn e s = finK (res1 X s r) s Kn := by
  have key : (∃ v, resultV X s [r] = some v ∧ Kn v s) = finK (res1 X s r) s Kn := by
    unfold resultV resL finK
    cases h : res1 X s r with
    | none => simp [resL]
    | some v => simp [resL]
  rcases he with rfl | rfl <;> rw [inQ] <;> exact key
theorem inQ_normal1 {X : Cx} {r : ResultVar} {Kn : V → St → Prop} {s : St} : inQ X [r] Kn .normal s = finK (res1 X s r) s Kn := inQ_one (.inl rfl)
theorem inQ_ret1 {X : Cx} {r : ResultVar} {Kn : V → St → Prop} {s : St} : inQ X [r] Kn .ret s = finK (res1 X s r) s Kn := inQ_one (.inr rfl)
attribute [go_sem] finK_some inQ_normal1 inQ_ret1
theorem T.post {X : Cx} {c : Code} {s : St} {Q : Exit → St → Prop} (h : T X c s (fun e s' => ∃ s2, Ents X.k0 s' s2 ∧ Q e s2)) : T X c s Q :=
  fun a w hr => wpIn_mono (h a w hr) fun e a' w' ⟨s', ⟨s2, h1, h2⟩, h3⟩ => ⟨s2, h2, h1 a' w' h3⟩

/-- Slot by slot the same, nothing, or what it holds read out. -/
def frzLe (hp : Heap) : List V → List V → Prop
  | [], [] => True
  | v :: l, v' :: l' => (v' = .top ∨ v' = v ∨ VEnt (frz 5 hp v) v') ∧ frzLe hp l l'
  | _, _ => False
theorem frzLe.spec {hp : Heap} : ∀ {l l' : List V}, frzLe hp l l' → l'.length = l.length ∧ ∀ (d : Nat) (v' : V), l'[d]? = some v' → ∃ v, l[d]? = some v ∧ (v' = .top ∨ v' = v ∨ VEnt (frz 5 hp v) v')
  | [], [], _ => ⟨rfl, fun d v h => by simp at h⟩
  | v :: l, v' :: l', h => by
    obtain ⟨h1, h2⟩ := frzLe.spec h.2
    refine ⟨by simp [h1], fun d u hu => ?_⟩
    cases d with
    | zero =>
      simp only [List.getElem?_cons_zero, Option.some.injEq] at hu ⊢
      subst hu
      exact ⟨v, rfl, h.1⟩
    | succ d => simpa using h2 d u (by simpa using hu)
  | [], _ :: _, h => h.elim
  | _ :: _, [], h => h.elim

end Go.Fly
end
section
/- Contracts of the law on what is farther; airs that let less pass, types that are quieter. -/
namespace Go.Fly
open Go

theorem tmod_bd {a b : Int} (ha : 0 ≤ a) (hb : 0 < b) : 0 ≤ a.tmod b ∧ a.tmod b < b := ⟨Int.tmod_nonneg b ha, Int.tmod_lt_of_pos a hb⟩
/-! ### Lists of lists that are being made -/

structure NA where
  i : Nat
  nu : Nat → Loc
  H : Heap
/-- What is kept: the outer list, at L, of the rows so far; the inner ones; what lay before. -/
structure NInv (L : Loc) (sz : Nat) (row : (Nat → Loc) → Nat → List V) (szI : Nat) (m : Nat → Nat) (g : Nat → Nat → List V) (base : Heap) (cb n ck : Nat) (b : NA) : Prop where
  le : b.i ≤ n
  outer : b.H L = some (.arr b.i sz (row b.nu))
  inner : ∀ j, j < b.i → b.H (b.nu j) = some (.arr (m j) szI (g j))
  lo : ∀ j, j < b.i → cb < (b.nu j).1
  hi : ∀ j, j < b.i → (b.nu j).1 < ck
  ne : ∀ j, j < b.i → b.nu j ≠ L
  inj : ∀ j k, j < b.i → k < b.i → b.nu j = b.nu k → j = k
  base : ∀ l, l.1 ≤ cb → b.H l = base l
  free : ∀ l, ck ≤ l.1 → b.H l = none

theorem NInv.mono {L : Loc} {sz : Nat} {row : (Nat → Loc) → Nat → List V} {szI : Nat} {m : Nat → Nat} {g : Nat → Nat → List V} {base : Heap} {cb n ck ck' : Nat} {b : NA} (h : NInv L sz row szI m g base cb n ck b) (hc : ck ≤ ck') : NInv L sz row szI m g base cb n ck' b :=
  ⟨h.le, h.outer, h.inner, h.lo, fun j hj => Nat.lt_of_lt_of_le (h.hi j hj) hc, h.ne, h.inj, h.base, fun l hl => h.free l (Nat.le_trans hc hl)⟩
/-- Before the first row. -/
theorem NInv.start {L : Loc} {sz : Nat} {row : (Nat → Loc) → Nat → List V} {szI : Nat} {m : Nat → Nat} {g : Nat → Nat → List V} {base : Heap} {cb n ck : Nat} {nu : Nat → Loc} (hL : cb < L.1) (hL2 : L.1 < ck) (hf : ∀ l, cb < l.1 → base l = none) :
    NInv L sz row szI m g base cb n ck ⟨0, nu, updH base L (.arr 0 sz (row nu))⟩ := by
  refine ⟨Nat.zero_le _, updH_same _ _ _, fun j hj => absurd hj (Nat.not_lt_zero _), fun j hj => absurd hj (Nat.not_lt_zero _), fun j hj => absurd hj (Nat.not_lt_zero _), fun j hj => absurd hj (Nat.not_lt_zero _), fun j k hj => absurd hj (Nat.not_lt_zero _), fun l hl => ?_, fun l hl => ?_⟩
  · show updH _ _ _ l = _
    rw [updH_ne (by rintro rfl; omega)]
  · show updH _ _ _ l = _
    rw [updH_ne (by rintro rfl; omega)]
    exact hf l (by omega)
/-- Another object of the call's own changes. -/
theorem NInv.box {L : Loc} {sz : Nat} {row : (Nat → Loc) → Nat → List V} {szI : Nat} {m : Nat → Nat} {g : Nat → Nat → List V} {base : Heap} {cb n ck : Nat} {b : NA} (h : NInv L sz row szI m g base cb n ck b) {l0 : Loc} {o : AObj}
    (h1 : cb < l0.1) (h2 : l0.1 < ck) (h3 : L ≠ l0) (h4 : ∀ j, j < b.i → b.nu j ≠ l0) : NInv L sz row szI m g base cb n ck ⟨b.i, b.nu, updH b.H l0 o⟩ := by
  refine ⟨h.le, ?_, fun j hj => ?_, h.lo, h.hi, h.ne, h.inj, fun l hl => ?_, fun l hl => ?_⟩
  · show updH _ _ _ L = _
    rw [updH_ne h3]
    exact h.outer
  · show updH _ _ _ (b.nu j) = _
    rw [updH_ne (h4 j hj)]
    exact h.inner j hj
  · show updH _ _ _ l = _
    rw [updH_ne (by rintro rfl; omega)]
    exact h.base l hl
  · show updH _ _ _ l = _
    rw [updH_ne (by rintro rfl; omega)]
    exact h.free l hl
def updN (nu : Nat → Loc) (i : Nat) (l : Loc) : Nat → Loc := fun j => if j = i then l else nu j
theorem updN_same {nu : Nat → Loc} {i : Nat} {l : Loc} : updN nu i l i = l := if_pos rfl
theorem updN_ne {nu : Nat → Loc} {i j : Nat} {l : Loc} (h : j ≠ i) : updN nu i l j = nu j := if_neg h
/-- One row more. -/
theorem NInv.snoc {L : Loc} {sz : Nat} {row : (Nat → Loc) → Nat → List V} {szI : Nat} {m : Nat → Nat} {g : Nat → Nat → List V} {base : Heap} {cb n ck ck' : Nat} {b : NA} (h : NInv L sz row szI m g base cb n ck b) {l : Loc}
    (hin : b.i < n) (hl : ck ≤ l.1) (hl2 : l.1 < ck') (hL : cb < L.1) (hL2 : L.1 < ck) (hrow : ∀ nu nu' j, nu j = nu' j → row nu j = row nu' j) :
    NInv L sz row szI m g base cb n ck' ⟨b.i + 1, updN b.nu b.i l, updH (updH b.H l (.arr (m b.i) szI (g b.i))) L (.arr (b.i + 1) sz (row (updN b.nu b.i l)))⟩ := by
  have hcb : cb < l.1 := by omega
  have hlL : l ≠ L := fun e => by subst e; omega
  have hnl : ∀ j, j < b.i → b.nu j ≠ l := fun j hj e => by have := h.hi j hj; rw [e] at this; omega
  have key : ∀ j, j < b.i + 1 → (j < b.i ∧ updN b.nu b.i l j = b.nu j) ∨ (j = b.i ∧ updN b.nu b.i l j = l) := fun j hj => by
    by_cases e : j = b.i
    · exact .inr ⟨e, by subst e; exact updN_same⟩
    · exact .inl ⟨by omega, updN_ne e⟩
  refine ⟨Nat.succ_le_of_lt hin, updH_same _ _ _, fun j hj => ?_, fun j hj => ?_, fun j hj => ?_, fun j hj => ?_, fun j k hj hk e => ?_, fun l' hl' => ?_, fun l' hl' => ?_⟩
  · rcases key j hj with ⟨h1, h2⟩ | ⟨rfl, h2⟩
    · show updH _ _ _ (updN b.nu b.i l j) = _
      rw [h2, updH_ne (h.ne j h1), updH_ne (hnl j h1)]
      exact h.inner j h1
    · show updH _ _ _ (updN b.nu b.i l b.i) = _
      rw [h2, updH_ne hlL, updH_same]
  · show cb < (updN b.nu b.i l j).1
    rcases key j hj with ⟨h1, h2⟩ | ⟨rfl, h2⟩ <;> rw [h2]
    · exact h.lo j h1
    · exact hcb
  · show (updN b.nu b.i l j).1 < ck'
    rcases key j hj with ⟨h1, h2⟩ | ⟨rfl, h2⟩ <;> rw [h2]
    · have := h.hi j h1; omega
    · exact hl2
  · show updN b.nu b.i l j ≠ L
    rcases key j hj with ⟨h1, h2⟩ | ⟨rfl, h2⟩ <;> rw [h2]
    · exact h.ne j h1
    · exact hlL
  · have e' : updN b.nu b.i l j = updN b.nu b.i l k := e
    rcases key j hj with ⟨h1, h2⟩ | ⟨rfl, h2⟩ <;> rcases key k hk with ⟨h3, h4⟩ | ⟨rfl, h4⟩ <;> first | rw [h2, h4] at e' | skip
    · exact h.inj j k h1 h3 e'
    · exact absurd e' (hnl j h1)
    · exact absurd e'.symm (hnl k h3)
    · rfl
  · show updH _ _ _ l' = _
    rw [updH_ne (by rintro rfl; omega), updH_ne (by rintro rfl; omega)]
    exact h.base l' hl'
  · show updH _ _ _ l' = _
    rw [updH_ne (by rintro rfl; omega), updH_ne (by rintro rfl; omega)]
    exact h.free l' (by omega)

/-! ### Lists of lists that are written, and read out -/

theorem frzLe.refl {hp : Heap} : ∀ {l : List V}, frzLe hp l l
  | [] => trivial
  | _ :: l => ⟨.inr (.inl rfl), frzLe.refl (l := l)⟩
theorem frzLe.set {hp : Heap} {u v' : V} : ∀ {l l' : List V} {d : Nat}, frzLe hp l l' → l[d]? = some u → VEnt (frz 5 hp u) v' → frzLe hp l (l'.set d v')
  | [], [], d, h, hd, _ => by simp at hd
  | v :: l, w :: l', 0, h, hd, hv => by
    simp only [List.getElem?_cons_zero, Option.some.injEq] at hd
    subst hd
    exact ⟨.inr (.inr hv), h.2⟩
  | v :: l, w :: l', d + 1, h, hd, hv => ⟨h.1, frzLe.set h.2 (by simpa using hd) hv⟩
  | [], _ :: _, _, h, _, _ => h.elim
  | _ :: _, [], _, h, _, _ => h.elim

theorem HpLe.same {hp : Heap} {l : Loc} {a b : AObj} (h : ObjLe a b) : HpLe (updH hp l a) (updH hp l b) := by
  intro l' o' h'
  by_cases e : l' = l
  · subst e
    rw [updH_same] at h' ⊢
    cases h'
    exact ⟨a, rfl, h⟩
  · rw [updH_ne e] at h' ⊢
    exact ⟨o', h', ObjLe.refl _⟩
end Go.Fly
end
section
/- Contracts of walls, tables and what they screen. -/
namespace Go.Fly
open Go

/-- A valid wall. -/
structure WallOk (nm : List UInt8) (ax ay bx ky h ec : Int) : Prop where
  name : nameB nm = true
  p1 : -1000 ≤ ax ∧ ax ≤ 1000
  p2 : -1000 ≤ ay ∧ ay ≤ 1000
  p3 : -1000 ≤ bx ∧ bx ≤ 1000
  p4 : -1000 ≤ ky ∧ ky ≤ 1000
  two : ¬ (ax = bx ∧ ay = ky)
  high : 1 ≤ h ∧ h ≤ 1000
  echo : 0 ≤ ec ∧ ec ≤ 1000
structure WallsOk (n : Nat) (get : Nat → List V) : Prop where
  cnt : n ≤ 32
  wall : ∀ i, i < n → WallOk (wName get i) (cell get i 1) (cell get i 2) (cell get i 3) (cell get i 4) (cell get i 5) (cell get i 6)
  two : ∀ i k, i < n → k < i → wName get k ≠ wName get i

/-! ### Contracts -/

def nanC : Contract := fun _ args =>
  match args with
  | [.int .i64 _] => ⟨True, .bool false, none⟩
  | _ => ⟨False, .top, none⟩
def cmpE (x y : Int) : Int := if x < y then -1 else if y < x then 1 else 0
def cmpC : Contract := fun _ args =>
  match args with
  | [.int .i64 x, .int .i64 y] => ⟨True, .int .i64 (cmpE x y), none⟩
  | _ => ⟨False, .top, none⟩
attribute [go_sem] nanC cmpC
end Go.Fly
end
section
/- Bounds of sides, lengths and depths. -/
namespace Go.Fly
open Go

theorem sq_bd {n k : Int} (h : -k ≤ n ∧ n ≤ k) : 0 ≤ n * n ∧ n * n ≤ k * k := by
  have a := mul_abs_le h.1 h.2 h.1 h.2
  have b : 0 ≤ n * n := by
    rcases Int.le_total 0 n with h | h
    · exact Int.mul_nonneg h h
    · rw [← Int.neg_mul_neg]; exact Int.mul_nonneg (by omega) (by omega)
  omega
end Go.Fly
end
section
/- States whose slots are a function: what is written is not spread over a list. -/
namespace Go.Fly
open Go

def updF (f : Nat → V) (d : Nat) (v : V) : Nat → V := fun e => if e = d then v else f e
def mkT (n : Nat) (f : Nat → V) : List V := (List.range n).map f
def argF (args : List V) : Nat → V := fun e => args.getD e .top
theorem mkT_length {n : Nat} {f : Nat → V} : (mkT n f).length = n := by simp [mkT]
theorem mkT_get {n : Nat} {f : Nat → V} {e : Nat} : (mkT n f)[e]? = if n ≤ e then none else some (f e) := by
  unfold mkT
  rw [List.getElem?_map]
  by_cases h : n ≤ e
  · rw [if_pos h, List.getElem?_eq_none (by simpa using h)]; rfl
  · rw [if_neg h, List.getElem?_range (by omega)]; rfl
theorem mkT_set {n : Nat} {f : Nat → V} {d : Nat} {v : V} : (mkT n f).set d v = mkT n (updF f d v) := by
  apply List.ext_getElem?
  intro e
  rw [List.getElem?_set, mkT_get, mkT_get, mkT_length]
  unfold updF
  by_cases h : d = e
  · subst h
    by_cases h2 : n ≤ d
    · simp [h2]
    · simp [h2]
  · have : ¬ e = d := fun q => h q.symm
    simp [h, this]
theorem updF_app {f : Nat → V} {d e : Nat} {v : V} : updF f d v e = if e = d then v else f e := rfl
theorem argF_app {args : List V} {e : Nat} : argF args e = args.getD e .top := rfl
theorem enter_mkT {args : List V} {n : Nat} (h : args.length ≤ n) : St.enter args n = ⟨1, mkT n (argF args), fun _ => none⟩ := by
  unfold St.enter
  congr 1
  apply List.ext_getElem?
  intro e
  rw [mkT_get]
  unfold argF
  by_cases h1 : e < args.length
  · rw [List.getElem?_append_left h1, if_neg (by omega), List.getD_eq_getElem?_getD, List.getElem?_eq_getElem h1]; rfl
  · rw [List.getElem?_append_right (by omega)]
    by_cases h2 : n ≤ e
    · rw [if_pos h2, List.getElem?_eq_none (by simp; omega)]
    · rw [if_neg h2, List.getElem?_replicate, if_pos (by omega), List.getD_eq_getElem?_getD, List.getElem?_eq_none (by omega)]; rfl
theorem app_mkT {args : List V} {n : Nat} (h : args.length ≤ n) : args ++ List.replicate (n - args.length) .top = mkT n (argF args) := by
  have := congrArg St.tm (enter_mkT h)
  exact this

/-- Slots that a loop writes, as intervals. -/
def inD : List (Nat × Nat) → Nat → Prop
  | [], _ => False
  | (a, b) :: l, e => (a ≤ e ∧ e ≤ b) ∨ inD l e
def topF : List (Nat × Nat) → (Nat → V) → Nat → V
  | [], f => f
  | (a, b) :: l, f => fun e => if a ≤ e then (if e ≤ b then .top else topF l f e) else topF l f e
def setF : List (Nat × V) → (Nat → V) → Nat → V
  | [], f => f
  | (d, v) :: l, f => setF l (updF f d v)
theorem topF_nil {f : Nat → V} : topF [] f = f := rfl
theorem topF_app {a b : Nat} {l : List (Nat × Nat)} {f : Nat → V} {e : Nat} : topF ((a, b) :: l) f e = if a ≤ e then (if e ≤ b then .top else topF l f e) else topF l f e := rfl
theorem setF_nil {f : Nat → V} : setF [] f = f := rfl
theorem setF_cons {d : Nat} {v : V} {l : List (Nat × V)} {f : Nat → V} : setF ((d, v) :: l) f = setF l (updF f d v) := rfl
theorem inD_nil {e : Nat} : inD [] e = False := propext ⟨id, id⟩
theorem inD_cons {a b : Nat} {l : List (Nat × Nat)} {e : Nat} : inD ((a, b) :: l) e = ((a ≤ e ∧ e ≤ b) ∨ inD l e) := propext ⟨id, id⟩
theorem topF_in {l : List (Nat × Nat)} {f : Nat → V} {e : Nat} (h : inD l e) : topF l f e = .top := by
  induction l with
  | nil => exact h.elim
  | cons x l ih =>
    obtain ⟨a, b⟩ := x
    rw [topF_app]
    rcases h with h | h
    · rw [if_pos h.1, if_pos h.2]
    · rw [ih h]; split <;> (try split) <;> rfl
theorem topF_out {l : List (Nat × Nat)} {f : Nat → V} {e : Nat} (h : ¬ inD l e) : topF l f e = f e := by
  induction l with
  | nil => rfl
  | cons x l ih =>
    obtain ⟨a, b⟩ := x
    rw [topF_app, ih fun q => h (.inr q)]
    split
    · split
      · rename_i h1 h2; exact (h (.inl ⟨h1, h2⟩)).elim
      · rfl
    · rfl
/-- The slots that a loop does not write are as they were. -/
def Off (n : Nat) (dead : List (Nat × Nat)) (g f : Nat → V) : Prop := ∀ e, e < n → ¬ inD dead e → g e = f e
theorem Off.upd {n : Nat} {dead : List (Nat × Nat)} {g f : Nat → V} {d : Nat} {v : V} (hd : inD dead d) : Off n dead (updF g d v) f = Off n dead g f := by
  apply propext
  constructor
  · intro h e hn he
    rw [← h e hn he, updF_app, if_neg (by rintro rfl; exact he hd)]
  · intro h e hn he
    rw [updF_app, if_neg (by rintro rfl; exact he hd)]; exact h e hn he
theorem Off.top {n : Nat} {dead : List (Nat × Nat)} {f : Nat → V} : Off n dead (topF dead f) f = True := eq_true fun e _ he => topF_out he
theorem Off.refl {n : Nat} {dead : List (Nat × Nat)} {f : Nat → V} : Off n dead f f = True := eq_true fun e _ he => rfl
def eqL (g : Nat → V) : List (Nat × V) → Prop
  | [] => True
  | (d, v) :: l => g d = v ∧ eqL g l
theorem eqL_nil {g : Nat → V} : eqL g [] = True := rfl
theorem eqL_cons {g : Nat → V} {d : Nat} {v : V} {l : List (Nat × V)} : eqL g ((d, v) :: l) = (g d = v ∧ eqL g l) := rfl
/-- What a slot of the beginning of a round holds: what the list says last, or nothing that is known, or what it held. -/
theorem setF_app {l : List (Nat × V)} {g : Nat → V} {dead : List (Nat × Nat)} (hg : eqL g l) : ∀ {f : Nat → V} {e : Nat}, (f e = .top ∨ f e = g e) → setF l f e = .top ∨ setF l f e = g e := by
  induction l with
  | nil => intro f e h; exact h
  | cons x l ih =>
    intro f e h
    obtain ⟨d, v⟩ := x
    rw [setF_cons]
    refine ih hg.2 ?_
    rw [updF_app]
    by_cases q : e = d
    · subst q; rw [if_pos rfl]; exact .inr hg.1.symm
    · rw [if_neg q]; exact h
theorem tmLe_mkT {n : Nat} {f g : Nat → V} (h : ∀ e, e < n → f e = .top ∨ f e = g e) : tmLe (mkT n g) (mkT n f) := by
  have key : ∀ (l : List Nat), (∀ e ∈ l, f e = .top ∨ f e = g e) → tmLe (l.map g) (l.map f) := by
    intro l
    induction l with
    | nil => intro _; trivial
    | cons e l ih =>
      intro h
      refine ⟨?_, ih fun e he => h e (by simp [he])⟩
      rcases h e (by simp) with q | q
      · exact .inl q
      · exact .inr q.symm
  exact key _ fun e he => h e (by simpa using he)
/-- What is asked of the slots behind a round. -/
def LeT (tm : List V) (n : Nat) (live : List (Nat × V)) (dead : List (Nat × Nat)) (f : Nat → V) : Prop := tm.length = n ∧ eqL (fun e => tm.getD e .top) live ∧ Off n dead (fun e => tm.getD e .top) f
theorem LeT_mk {n : Nat} {g : Nat → V} {live : List (Nat × V)} {dead : List (Nat × Nat)} {f : Nat → V} : LeT (mkT n g) n live dead f = (eqL (fun e => (mkT n g).getD e .top) live ∧ Off n dead g f) := by
  unfold LeT Off
  rw [mkT_length]
  apply propext
  have hg : ∀ e, e < n → (mkT n g).getD e .top = g e := fun e he => by
    rw [List.getD_eq_getElem?_getD, mkT_get, if_neg (by omega)]; rfl
  constructor
  · rintro ⟨_, h1, h2⟩
    exact ⟨h1, fun e he hn => by rw [← hg e he]; exact h2 e he hn⟩
  · rintro ⟨h1, h2⟩
    exact ⟨rfl, h1, fun e he hn => by show (mkT n g).getD e .top = _; rw [hg e he]; exact h2 e he hn⟩
theorem LeT.le {tm : List V} {n : Nat} {live : List (Nat × V)} {dead : List (Nat × Nat)} {f : Nat → V} (h : LeT tm n live dead f) : tmLe tm (mkT n (setF live (topF dead f))) := by
  obtain ⟨h0, h1, h2⟩ := h
  have e1 : tm = mkT n (fun e => tm.getD e .top) := by
    apply List.ext_getElem?
    intro e
    rw [mkT_get]
    by_cases q : n ≤ e
    · rw [if_pos q, List.getElem?_eq_none (by omega)]
    · rw [if_neg q, List.getD_eq_getElem?_getD, List.getElem?_eq_getElem (by omega)]; rfl
  generalize hgg : (fun e => tm.getD e .top) = g at *
  rw [e1]
  refine tmLe_mkT fun e he => setF_app (dead := dead) h1 ?_
  by_cases q : inD dead e
  · exact .inl (topF_in q)
  · rw [topF_out q]; exact .inr (h2 e he q).symm
theorem LeT.start {n : Nat} {f : Nat → V} {live : List (Nat × V)} {dead : List (Nat × Nat)} (h : eqL f live) : tmLe (mkT n f) (mkT n (setF live (topF dead f))) := by
  refine tmLe_mkT fun e he => setF_app (dead := dead) h ?_
  by_cases q : inD dead e
  · exact .inl (topF_in q)
  · rw [topF_out q]; exact .inr rfl

theorem RestT.loopF {X : Cx} {D : Tabs} {c : Code} {ck n : Nat} {f : Nat → V} {hp : Heap} {Q : Exit → St → Prop} {β : Type} (dead : List (Nat × Nat)) (live : β → List (Nat × V)) (hpf : β → Heap) (Inv : β → Prop) (μ : β → Nat) (b0 : β)
    (hI : Inv b0) (h0 : eqL f (live b0)) (hh : HpLe hp (hpf b0))
    (round : ∀ ck' b, ck ≤ ck' → Inv b → exC X D c ⟨ck', mkT n (setF (live b) (topF dead f)), hpf b⟩
      (seqQ (fun s' => ck ≤ s'.ck ∧ ∃ b', Inv b' ∧ μ b' < μ b ∧ LeT s'.tm n (live b') dead f ∧ HpLe s'.hp (hpf b')) Q)) : RestT X D (.loop c) ⟨ck, mkT n f, hp⟩ Q := by
  intro hd hX hm
  refine T.loop (α := { x : Nat × β // ck ≤ x.1 ∧ Inv x.2 }) (fun x => ⟨x.1.1, mkT n (setF (live x.1.2) (topF dead f)), hpf x.1.2⟩) (fun x => μ x.1.2) ⟨(ck + 1, b0), by simp, hI⟩ (Ents.go (LeT.start h0) hh) ?_
  rintro ⟨⟨ck', b⟩, h1, h2⟩
  refine T.mono (exC_ok hX hm c _ _ hd (round ck' b h1 h2)) fun e s' q => ?_
  cases e with
  | normal =>
    obtain ⟨q1, b', q2, q3, q4, q5⟩ := q
    obtain ⟨c1, t1, p1⟩ := s'
    exact ⟨⟨(c1 + 1, b'), by simp at q1 ⊢; omega, q2⟩, Ents.go q4.le q5, q3⟩
  | _ => exact q

theorem RestT.loopG {X : Cx} {D : Tabs} {c : Code} {ck n : Nat} {f : Nat → V} {hp : Heap} {Q : Exit → St → Prop} {β : Type} (dead : List (Nat × Nat)) (live : β → List (Nat × V)) (hpf : β → Heap) (Inv : Nat → β → Prop) (μ : β → Nat) (b0 : β)
    (hI : Inv (ck + 1) b0) (h0 : eqL f (live b0)) (hh : HpLe hp (hpf b0))
    (round : ∀ ck' b, ck < ck' → Inv ck' b → exC X D c ⟨ck', mkT n (setF (live b) (topF dead f)), hpf b⟩
      (seqQ (fun s' => ck ≤ s'.ck ∧ ∃ b', Inv (s'.ck + 1) b' ∧ μ b' < μ b ∧ LeT s'.tm n (live b') dead f ∧ HpLe s'.hp (hpf b')) fun e s' => ∃ s2, Ents X.k0 s' s2 ∧ Q e s2)) : RestT X D (.loop c) ⟨ck, mkT n f, hp⟩ Q := by
  intro hd hX hm
  refine T.post (T.loop (α := { x : Nat × β // ck < x.1 ∧ Inv x.1 x.2 }) (fun x => ⟨x.1.1, mkT n (setF (live x.1.2) (topF dead f)), hpf x.1.2⟩) (fun x => μ x.1.2) ⟨(ck + 1, b0), by simp, hI⟩ (Ents.go (LeT.start h0) hh) ?_)
  rintro ⟨⟨ck', b⟩, h1, h2⟩
  refine T.mono (exC_ok hX hm c _ _ hd (round ck' b h1 h2)) fun e s' q => ?_
  cases e with
  | normal =>
    obtain ⟨q1, b', q2, q3, q4, q5⟩ := q
    obtain ⟨c1, t1, p1⟩ := s'
    exact ⟨⟨(c1 + 1, b'), by simp at q1 ⊢; omega, q2⟩, Ents.go q4.le q5, q3⟩
  | _ => exact q

theorem updF_same {f : Nat → V} {d : Nat} {v : V} : updF f d v d = v := by rw [updF_app, if_pos rfl]
theorem updF_ne {f : Nat → V} {d e : Nat} {v : V} (h : ¬ e = d) : updF f d v e = f e := by rw [updF_app, if_neg h]
theorem mkT_getD {n : Nat} {f : Nat → V} {e : Nat} (h : ¬ n ≤ e) : (mkT n f).getD e .top = f e := by rw [List.getD_eq_getElem?_getD, mkT_get, if_neg h]; rfl
theorem mkT_get1 {n : Nat} {f : Nat → V} {e : Nat} (h : ¬ n ≤ e) : (mkT n f)[e]? = some (f e) := by rw [mkT_get, if_neg h]
theorem topF_hit {a b : Nat} {l : List (Nat × Nat)} {f : Nat → V} {e : Nat} (h1 : a ≤ e) (h2 : e ≤ b) : topF ((a, b) :: l) f e = .top := by rw [topF_app, if_pos h1, if_pos h2]
theorem topF_lo {a b : Nat} {l : List (Nat × Nat)} {f : Nat → V} {e : Nat} (h1 : ¬ a ≤ e) : topF ((a, b) :: l) f e = topF l f e := by rw [topF_app, if_neg h1]
theorem topF_hi {a b : Nat} {l : List (Nat × Nat)} {f : Nat → V} {e : Nat} (h2 : ¬ e ≤ b) : topF ((a, b) :: l) f e = topF l f e := by rw [topF_app, if_neg h2]; split <;> rfl
attribute [go_sem] mkT_get1 mkT_set updF_same updF_ne argF_app topF_nil topF_hit topF_lo topF_hi setF_nil setF_cons inD_nil inD_cons Off.upd Off.top Off.refl eqL_nil eqL_cons LeT_mk
end Go.Fly
end
section
/- More contracts of walls. -/
namespace Go.Fly
open Go
end Go.Fly
end
section
/- Airs with opposite winds; how paths are bent. -/
namespace Go.Fly
open Go

def leftE (sp ax ay : Int) : Int := if sp < 0 then -(sp * sp * (ax * ax + ay * ay)) else sp * sp * (ax * ax + ay * ay)
def rightE (w : Int) : Int := if w < 0 then -(w * w) else w * w
/-- Which of two layers is the faster one, along a direction. -/
def fastE (sp wx wy ax ay : Int) : Int := cmpE (leftE sp ax ay + rightE (wx * ax + wy * ay)) 0
def bentE (n : Nat) (get : Nat → List V) (a b c d e f : Int) : Int :=
  if botE get (atE n get (max c f)).toNat = botE get (atE n get (min c f)).toNat ∨ (d - a = 0 ∧ e - b = 0) then 0
  else fastE (cell get (atE n get (max c f)).toNat 1 - cell get (atE n get (min c f)).toNat 1) (cell get (atE n get (max c f)).toNat 2 - cell get (atE n get (min c f)).toNat 2)
    (cell get (atE n get (max c f)).toNat 3 - cell get (atE n get (min c f)).toNat 3) (d - a) (e - b)
/-- The same air with the opposite winds. -/
def revG (get : Nat → List V) (i : Nat) : List V :=
  [.int .i64 (cell get i 0), .int .i64 (cell get i 1), .int .i64 (-cell get i 2), .int .i64 (-cell get i 3), .sl (inN get i 4) 2 (inG get i 4)]
theorem isAir_rev {n : Nat} {get : Nat → List V} (h : IsAir n get) : IsAir n (revG get) := ⟨h.1, fun i hi => ⟨rfl, (h.2 i hi).2⟩⟩
theorem airE_rev {n : Nat} {get : Nat → List V} (h : airE n get = 0) : airE n (revG get) = 0 := by
  have hok := airE_ok h
  unfold airE at h ⊢
  have h0 : airE0 n = 0 := airE0_zero.2 hok.cnt
  simp only [h0, ne_eq, not_true_eq_false, if_false] at h ⊢
  rw [firstI_zero] at h ⊢
  intro i hi hi2
  have hl := h i hi hi2
  have e : layAt (revG get) i (inN (revG get) 0 4) = layerE (cell get i 0) (cell get i 1) (-cell get i 2) (-cell get i 3) (inN get i 4) (inG get i 4) (inN get 0 4) := rfl
  have e2 : layAt get i (inN get 0 4) = layerE (cell get i 0) (cell get i 1) (cell get i 2) (cell get i 3) (inN get i 4) (inG get i 4) (inN get 0 4) := rfl
  rw [e]
  rw [e2] at hl
  have hz := layerE_zero hl
  unfold layerE at hl ⊢
  by_cases h1 : layerE1 (cell get i 0) (cell get i 1) (cell get i 2) (cell get i 3) = 0
  · have h2 : layerE2 (inN get i 4) (inN get 0 4) = 0 := layerE2_zero.2 ⟨hz.2.1, hz.2.2.1, hz.2.2.2.1⟩
    have h3 : layerE1 (cell get i 0) (cell get i 1) (-cell get i 2) (-cell get i 3) = 0 := by
      unfold layerE1 at h1 ⊢
      rw [firstL_zero] at h1 ⊢
      simp only [List.mem_cons, List.not_mem_nil, or_false, forall_eq_or_imp, forall_eq, rng_zero] at h1 ⊢
      omega
    simp only [h1, h2, h3, ne_eq, not_true_eq_false, if_false] at hl ⊢
    exact hl
  · simp only [ne_eq, h1, not_false_eq_true, if_true] at hl
theorem fast_neg (sp wx wy ax ay : Int) : fastE sp (-wx) (-wy) (-ax) (-ay) = fastE sp wx wy ax ay := by
  unfold fastE leftE rightE
  simp only [Int.neg_mul_neg]
theorem at_congr {n : Nat} {get get' : Nat → List V} (h : ∀ j, cell get' j 0 = cell get j 0) (z : Int) : atE n get' z = atE n get z := by
  unfold atE
  exact idxF_congr fun j _ _ => by rw [top_congr fun j _ => h j]
theorem bent_rev {n : Nat} {get : Nat → List V} (a b c d e f : Int) : bentE n (revG get) d e f a b c = bentE n get a b c d e f := by
  have hc : ∀ j, cell (revG get) j 0 = cell get j 0 := fun _ => rfl
  unfold bentE
  rw [at_congr hc, at_congr hc, bot_congr (get' := revG get) (get := get) fun j _ => hc j, bot_congr (get' := revG get) (get := get) fun j _ => hc j, Int.max_comm f c, Int.min_comm f c]
  generalize (atE n get (max c f)).toNat = i
  generalize (atE n get (min c f)).toNat = j
  have e1 : ∀ k, cell (revG get) k 1 = cell get k 1 := fun _ => rfl
  have e2 : ∀ k, cell (revG get) k 2 = -cell get k 2 := fun _ => rfl
  have e3 : ∀ k, cell (revG get) k 3 = -cell get k 3 := fun _ => rfl
  rw [e1, e1, e2, e2, e3, e3]
  have h2 : -cell get i 2 - -cell get j 2 = -(cell get i 2 - cell get j 2) := by omega
  have h3 : -cell get i 3 - -cell get j 3 = -(cell get i 3 - cell get j 3) := by omega
  rw [h2, h3, show a - d = -(d - a) by omega, show b - e = -(e - b) by omega, fast_neg]
  have hz : (-(d - a) = 0 ∧ -(e - b) = 0) ↔ (d - a = 0 ∧ e - b = 0) := by omega
  simp only [hz]

/-! ### Contracts -/

def ownLayC : Contract := fun _ args =>
  match args with
  | [.agg [.int .i64 th, .int .i64 sp, .int .i64 wx, .int .i64 wy, .sl m sz g]] => ⟨sz = 2 ∧ IsIv m g ∧ m ≤ 1000000, .agg [.int .i64 th, .int .i64 sp, .int .i64 wx, .int .i64 wy, .sl m 2 g], none⟩
  | _ => ⟨False, .top, none⟩
def revLayC : Contract := fun _ args =>
  match args with
  | [.agg [.int .i64 th, .int .i64 sp, .int .i64 wx, .int .i64 wy, .sl m sz g]] => ⟨sz = 2 ∧ IsIv m g ∧ m ≤ 1000000 ∧ (-1000 ≤ wx ∧ wx ≤ 1000) ∧ (-1000 ≤ wy ∧ wy ≤ 1000), .agg [.int .i64 th, .int .i64 sp, .int .i64 (-wx), .int .i64 (-wy), .sl m 2 g], none⟩
  | _ => ⟨False, .top, none⟩
def fastC : Contract := fun _ args =>
  match args with
  | [.agg [.int .i64 th, .int .i64 sp, .int .i64 wx, .int .i64 wy, .sl m sz g], .agg [.int .i64 th2, .int .i64 sp2, .int .i64 wx2, .int .i64 wy2, .sl m2 sz2 g2], .agg [.int .i64 ax, .int .i64 ay]] =>
    ⟨Pu (.sl m sz g) ∧ Pu (.sl m2 sz2 g2) ∧ (-2000 ≤ sp - sp2 ∧ sp - sp2 ≤ 2000) ∧ (-2000 ≤ sp ∧ sp ≤ 2000) ∧ (-2000 ≤ sp2 ∧ sp2 ≤ 2000) ∧ (-100 ≤ wx ∧ wx ≤ 100) ∧ (-100 ≤ wy ∧ wy ≤ 100) ∧ (-100 ≤ wx2 ∧ wx2 ≤ 100) ∧ (-100 ≤ wy2 ∧ wy2 ≤ 100) ∧ (-20000 ≤ ax ∧ ax ≤ 20000) ∧ (-20000 ≤ ay ∧ ay ≤ 20000),
      .int .i64 (fastE (sp - sp2) (wx - wx2) (wy - wy2) ax ay), none⟩
  | _ => ⟨False, .top, none⟩
def bentC : Contract := fun _ args =>
  match args with
  | [.sl n sz get, .agg [.int .i64 a, .int .i64 b, .int .i64 c, .int .i64 d, .int .i64 e, .int .i64 f]] => ⟨sz = 5 ∧ IsAir n get ∧ airE n get = 0 ∧ PathOk a b c d e f, .int .i64 (bentE n get a b c d e f), none⟩
  | _ => ⟨False, .top, none⟩
attribute [go_sem] ownLayC revLayC fastC bentC
end Go.Fly
end
section
/- Copies of airs by a function; how fast layers are. -/
namespace Go.Fly
open Go
/-- A function over layers: the opposite winds, or a copy. -/
def mapLayC (g1 g2 : FuncId) : Contract := fun rl args =>
  match args with
  | [.sl n sz get, .fn (.func g) [] []] => ⟨sz = 5 ∧ IsAir n get ∧ (g = g1 ∨ g = g2) ∧ n ≤ 1000000 ∧ ∀ i, i < n → inN get i 4 ≤ 1000000 ∧ (-1000 ≤ cell get i 2 ∧ cell get i 2 ≤ 1000) ∧ (-1000 ≤ cell get i 3 ∧ cell get i 3 ≤ 1000),
      .msl rl 0 n, some (.arr n 5 (if g = g1 then revG get else get))⟩
  | _ => ⟨False, .top, none⟩
def dirPC : Contract := fun _ args =>
  match args with
  | [.agg [.int .i64 a, .int .i64 b, .int .i64 c, .int .i64 d, .int .i64 e, .int .i64 f]] => ⟨(-10000 ≤ a ∧ a ≤ 10000) ∧ (-10000 ≤ b ∧ b ≤ 10000) ∧ (-10000 ≤ d ∧ d ≤ 10000) ∧ (-10000 ≤ e ∧ e ≤ 10000), .agg [.int .i64 (d - a), .int .i64 (e - b)], none⟩
  | _ => ⟨False, .top, none⟩
attribute [go_sem] mapLayC dirPC
theorem ones5 {a b c d : Int} {m : Nat} {g : Nat → List V} (h : Pu (.sl m 2 g)) : ∀ v ∈ [V.int .i64 a, V.int .i64 b, V.int .i64 c, V.int .i64 d, V.sl m 2 g], Pu v ∧ oneC v = true := fun v hv => by
  simp only [List.mem_cons, List.not_mem_nil, or_false] at hv
  rcases hv with rfl | rfl | rfl | rfl | rfl
  · exact ⟨.int _ _, rfl⟩
  · exact ⟨.int _ _, rfl⟩
  · exact ⟨.int _ _, rfl⟩
  · exact ⟨.int _ _, rfl⟩
  · exact ⟨h, rfl⟩
/-- The speeds and winds of a valid air. -/
theorem airE_wind {n : Nat} {get : Nat → List V} (h : airE n get = 0) {i : Nat} (hi : i < n) : (1 ≤ cell get i 1 ∧ cell get i 1 ≤ 2000) ∧ (-100 ≤ cell get i 2 ∧ cell get i 2 ≤ 100) ∧ (-100 ≤ cell get i 3 ∧ cell get i 3 ≤ 100) := by
  have hok := airE_ok h
  unfold airE at h
  have h0 : airE0 n = 0 := airE0_zero.2 hok.cnt
  simp only [h0, ne_eq, not_true_eq_false, if_false] at h
  have hl := firstI_zero.1 h i (Nat.zero_le _) (by omega)
  unfold layAt layerE at hl
  by_cases h1 : layerE1 (cell get i 0) (cell get i 1) (cell get i 2) (cell get i 3) = 0
  · unfold layerE1 at h1
    rw [firstL_zero] at h1
    simp only [List.mem_cons, List.not_mem_nil, or_false, forall_eq_or_imp, forall_eq, rng_zero] at h1
    exact ⟨h1.2.1, h1.2.2.1, h1.2.2.2⟩
  · simp only [ne_eq, h1, not_false_eq_true, if_true] at hl
theorem checkE_zero {n : Nat} {get : Nat → List V} {a b c d e f : Int} : checkE n get a b c d e f = 0 ↔ airE n get = 0 ∧ PathOk a b c d e f := by
  unfold checkE
  rw [firstL_zero]
  simp only [List.mem_cons, List.not_mem_nil, or_false, forall_eq_or_imp, forall_eq, pathE_zero]
/-- What is reckoned of two layers stays small. -/
theorem fast_bd {s u v ax ay : Int} (h1 : -2000 ≤ s ∧ s ≤ 2000) (h2 : -200 ≤ u ∧ u ≤ 200) (h3 : -200 ≤ v ∧ v ≤ 200) (h4 : -20000 ≤ ax ∧ ax ≤ 20000) (h5 : -20000 ≤ ay ∧ ay ≤ 20000) :
    (-4000000 ≤ u * ax ∧ u * ax ≤ 4000000) ∧ (-4000000 ≤ v * ay ∧ v * ay ≤ 4000000) ∧ (0 ≤ s * s ∧ s * s ≤ 4000000) ∧ (0 ≤ ax * ax ∧ ax * ax ≤ 400000000) ∧ (0 ≤ ay * ay ∧ ay * ay ≤ 400000000) ∧
    (0 ≤ s * s * (ax * ax + ay * ay) ∧ s * s * (ax * ax + ay * ay) ≤ 3200000000000000) ∧ (0 ≤ (u * ax + v * ay) * (u * ax + v * ay) ∧ (u * ax + v * ay) * (u * ax + v * ay) ≤ 64000000000000) := by
  have a1 := mul_abs_le (A := 200) (B := 20000) h2.1 h2.2 h4.1 h4.2
  have a2 := mul_abs_le (A := 200) (B := 20000) h3.1 h3.2 h5.1 h5.2
  have a3 := sq_bd (k := 2000) h1
  have a4 := sq_bd (k := 20000) h4
  have a5 := sq_bd (k := 20000) h5
  have a6 := mul_le_of (A := 4000000) (B := 800000000) (a := s * s) (b := ax * ax + ay * ay) a3.1 (by omega) (by omega) (by omega)
  have a7 := sq_bd (k := 8000000) (n := u * ax + v * ay) (by omega)
  omega
theorem fast_cases (sp w : Int) : ∃ a b : Bool, decide (sp < 0) = a ∧ decide (w < 0) = b ∧ ((a = true ∧ b = true) ∨ (a = true ∧ b = false) ∨ (a = false ∧ b = true) ∨ (a = false ∧ b = false)) := by
  refine ⟨_, _, rfl, rfl, ?_⟩
  cases decide (sp < 0) <;> cases decide (w < 0) <;> simp
end Go.Fly
end
