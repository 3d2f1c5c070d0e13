/- Part of a proof: an evaluator of the model's code by abstract values, and plain laws for it. No conditions. -/
import Derived.Test.YtfcdodaakhlppaaGreatDoorAU
import Derived.Test.YtfcdodaakhlppaaGreatDoorAJ
import Derived.Test.YtfcdodaakhlppaaGreatDoorAI
import Derived.MapKept
import Derived.Test.YtfcdodaakhlppaaGreatDoorAG
set_option linter.unusedSimpArgs false
set_option linter.unusedVariables false
section
/- The fund of the office: what its journal results in. -/
namespace Go.Fly.Off
open Go
/-- One more event that is accepted. -/
theorem replayL_app {lv : Int → Int} : ∀ (l m : List Ev) (h h' : Hist) (i : Nat), replayL lv h l i = (h', 0, 0) → replayL lv h (l ++ m) i = replayL lv h' m (i + l.length)
  | [], m, h, h', i, q => by
    unfold replayL at q
    cases q
    rfl
  | e :: l, m, h, h', i, q => by
    unfold replayL at q
    simp only at q
    split at q
    · rename_i w; cases q
    · rename_i w
      have := replayL_app l m (addE lv h e) h' (i + 1) q
      rw [List.cons_append, replayL]
      rw [if_neg w, this, List.length_cons, show i + 1 + l.length = i + (l.length + 1) by omega]
theorem replayed_snoc {lv : Int → Int} {l : List Ev} {h : Hist} {e : Ev} (hl : l.length < 1000) (hr : replayed lv l = (h, 0, 0)) (ha : acceptsE lv l e = 0) : replayed lv (l ++ [e]) = (addE lv h e, 0, 0) := by
  unfold acceptsE at ha
  simp only [hr] at ha
  unfold replayed at hr ⊢
  rw [if_neg (by omega)] at hr
  rw [if_neg (by rw [List.length_append]; simp only [List.length_cons, List.length_nil]; omega), replayL_app l [e] {} h 0 hr]
  split at ha
  · rename_i w; exact absurd ha w
  · rename_i w
    have w := Classical.not_not.1 w
    rw [firstL_zero] at w
    have we := w (eventE e) (by simp)
    unfold replayL
    have hw : firstL [eventE e, acceptE h e] = 0 := by simp [firstL, we, ha]
    simp only [hw]
    rfl
theorem accepts_of {lv : Int → Int} {l : List Ev} {h : Hist} {e : Ev} (hl : l.length < 1000) (hr : replayed lv l = (h, 0, 0)) (he : eventE e = 0) : acceptsE lv l e = acceptE h e := by
  unfold acceptsE
  have d : decide (1000 ≤ l.length) = false := decide_eq_false (by omega)
  simp only [hr, he, d]
  rfl
/-- Words with a number behind them. -/
def hN (i : Nat) : Str := [104, UInt8.ofNat (48 + i)]
def oN (k : Nat) : Str := [111, UInt8.ofNat (48 + k)]
def sJet : Str := [106, 101, 116]
def fbase : List Ev := [⟨1, Kd.str .type, [sJet], [1, 100000000], []⟩, ⟨2, Kd.str .house, [hN 0], [1, 1000], []⟩, ⟨3, Kd.str .house, [hN 1], [1, 1000], []⟩, ⟨4, Kd.str .house, [hN 2], [1, 1000], []⟩,
  ⟨5, Kd.str .flight, [[102], sJet], [1, 5], []⟩, ⟨6, Kd.str .publish, [[109]], [1], []⟩]
/-- The register of the fund's journal. -/
def fReg (offers : List Of) (fund : Int) : Reg := { day := 1, types := [⟨sJet, 100000000, 1000⟩], houses := [⟨hN 0, 1000⟩, ⟨hN 1, 1000⟩, ⟨hN 2, 1000⟩], flights := [⟨[102], sJet, 1, 5, -1⟩], maps := [⟨[109], 1, [70, 70, 70]⟩], offers := offers, complaints := [], fund := fund }
/-- What stands behind some rounds. -/
structure FInv (l : List Ev) (offers : List Of) (fund : Int) (k : Nat) : Prop where
  len : 6 ≤ l.length ∧ l.length ≤ 6 + 2 * k
  rep : replayed levelE l = (⟨l, l, fReg offers fund⟩, 0, 0)
  names : ∀ o ∈ offers, ∃ j, j < k ∧ o.name = oN j
  many : offers.length ≤ k
  paid : ∀ o ∈ offers, ∃ i, i < 3 ∧ o.house = hN i
  fund : 0 ≤ fund ∧ fund ≤ 65536 * k
theorem fbase_rep : replayed levelE fbase = (⟨fbase, fbase, fReg [] 0⟩, 0, 0) := by kernel_rfl
theorem FInv.init : FInv fbase [] 0 0 := ⟨⟨by decide, by decide⟩, fbase_rep, by simp, by simp, by simp, by omega⟩
theorem kindOf_str : ∀ k, kindOf (Kd.str k) = some k := by intro k; cases k <;> decide
end Go.Fly.Off
end
section
/- Contracts of the verifier's functions. -/
namespace Go.Fly
open Go

def loudC : Contract := fun _ args =>
  match args with
  | [] => ⟨True, .bool true, none⟩
  | _ => ⟨False, .top, none⟩
attribute [go_sem] loudC
end Go.Fly
end
section
/- Bounds of steps and transmittances. -/
namespace Go.Fly
open Go

theorem cell_fn0 {k k2 : IntKind} {f g : Nat → Int} {i : Nat} : cell (fun i => [V.int k (f i), V.int k2 (g i)]) i 0 = f i := rfl
theorem cell_fn1 {k k2 : IntKind} {f g : Nat → Int} {i : Nat} : cell (fun i => [V.int k (f i), V.int k2 (g i)]) i 1 = g i := rfl
theorem cast3 : ((3 : Nat) : Int) = 3 := rfl
attribute [go_sem] cell_fn0 cell_fn1 cast3
end Go.Fly
end
section
/- A path and its way back; what fits. -/
namespace Go.Fly
open Go

theorem PathOk.back {a b c d e f : Int} (h : PathOk a b c d e f) : PathOk d e f a b c := ⟨h.2.1, h.1, fun q => h.2.2 ⟨q.1.symm, q.2.1.symm, q.2.2.symm⟩⟩
end Go.Fly
end
section
/- Walls: what screens; lengths; tables. -/
namespace Go.Fly
open Go

/-- The name of a wall. -/
def wName (get : Nat → List V) (i : Nat) : List UInt8 := match (get i)[0]? with | some (V.str s) => s | _ => []
def IsWalls (n : Nat) (get : Nat → List V) : Prop := n ≤ 9223372036854775807 ∧ ∀ i, i < n →
  get i = [.str (wName get i), .int .i64 (cell get i 1), .int .i64 (cell get i 2), .int .i64 (cell get i 3), .int .i64 (cell get i 4), .int .i64 (cell get i 5), .int .i64 (cell get i 6)] ∧ (wName get i).length ≤ 9223372036854775807
theorem IsWalls.pu {n : Nat} {get : Nat → List V} (h : IsWalls n get) : Pu (.sl n 7 get) := pu_sl.2 fun i hi v hv => by
  rw [(h.2 i hi).1] at hv
  simp only [List.mem_cons, List.not_mem_nil, or_false] at hv
  rcases hv with rfl | rfl | rfl | rfl | rfl | rfl | rfl <;> first | exact .int _ _ | exact .str _

/-! ### There and back -/

/-! ### Tables -/

structure TabOk2 (n : Nat) (get : Nat → List V) : Prop where
  cnt : 0 < n ∧ n ≤ 16
  from_ : ∀ i, i < n → 1 ≤ cell get i 0 ∧ cell get i 0 ≤ 1000000
  fac : ∀ i, i < n → 0 ≤ cell get i 1 ∧ cell get i 1 ≤ 1000
  up : ∀ i, i + 1 < n → cell get i 0 < cell get (i + 1) 0
  down : ∀ i, i + 1 < n → cell get (i + 1) 1 ≤ cell get i 1
end Go.Fly
end
section
/- A receiver that is twice as far away; layers that let less pass; energies that are halved. -/
namespace Go.Fly
open Go

/-! ### Roots -/

/-! ### Steps -/

/-! ### What passes -/

/-! ### Layers that let less pass -/

/-! ### What is heard -/

end Go.Fly
end
section
/- Contracts of the law on what is farther; airs that let less pass, types that are quieter. -/
namespace Go.Fly
open Go

theorem tmod_bd {a b : Int} (ha : 0 ≤ a) (hb : 0 < b) : 0 ≤ a.tmod b ∧ a.tmod b < b := ⟨Int.tmod_nonneg b ha, Int.tmod_lt_of_pos a hb⟩
/-! ### Lists of lists that are being made -/

structure NA where
  i : Nat
  nu : Nat → Loc
  H : Heap
/-- What is kept: the outer list, at L, of the rows so far; the inner ones; what lay before. -/
structure NInv (L : Loc) (sz : Nat) (row : (Nat → Loc) → Nat → List V) (szI : Nat) (m : Nat → Nat) (g : Nat → Nat → List V) (base : Heap) (cb n ck : Nat) (b : NA) : Prop where
  le : b.i ≤ n
  outer : b.H L = some (.arr b.i sz (row b.nu))
  inner : ∀ j, j < b.i → b.H (b.nu j) = some (.arr (m j) szI (g j))
  lo : ∀ j, j < b.i → cb < (b.nu j).1
  hi : ∀ j, j < b.i → (b.nu j).1 < ck
  ne : ∀ j, j < b.i → b.nu j ≠ L
  inj : ∀ j k, j < b.i → k < b.i → b.nu j = b.nu k → j = k
  base : ∀ l, l.1 ≤ cb → b.H l = base l
  free : ∀ l, ck ≤ l.1 → b.H l = none

theorem NInv.mono {L : Loc} {sz : Nat} {row : (Nat → Loc) → Nat → List V} {szI : Nat} {m : Nat → Nat} {g : Nat → Nat → List V} {base : Heap} {cb n ck ck' : Nat} {b : NA} (h : NInv L sz row szI m g base cb n ck b) (hc : ck ≤ ck') : NInv L sz row szI m g base cb n ck' b :=
  ⟨h.le, h.outer, h.inner, h.lo, fun j hj => Nat.lt_of_lt_of_le (h.hi j hj) hc, h.ne, h.inj, h.base, fun l hl => h.free l (Nat.le_trans hc hl)⟩
/-- Before the first row. -/
theorem NInv.start {L : Loc} {sz : Nat} {row : (Nat → Loc) → Nat → List V} {szI : Nat} {m : Nat → Nat} {g : Nat → Nat → List V} {base : Heap} {cb n ck : Nat} {nu : Nat → Loc} (hL : cb < L.1) (hL2 : L.1 < ck) (hf : ∀ l, cb < l.1 → base l = none) :
    NInv L sz row szI m g base cb n ck ⟨0, nu, updH base L (.arr 0 sz (row nu))⟩ := by
  refine ⟨Nat.zero_le _, updH_same _ _ _, fun j hj => absurd hj (Nat.not_lt_zero _), fun j hj => absurd hj (Nat.not_lt_zero _), fun j hj => absurd hj (Nat.not_lt_zero _), fun j hj => absurd hj (Nat.not_lt_zero _), fun j k hj => absurd hj (Nat.not_lt_zero _), fun l hl => ?_, fun l hl => ?_⟩
  · show updH _ _ _ l = _
    rw [updH_ne (by rintro rfl; omega)]
  · show updH _ _ _ l = _
    rw [updH_ne (by rintro rfl; omega)]
    exact hf l (by omega)
/-- Another object of the call's own changes. -/
theorem NInv.box {L : Loc} {sz : Nat} {row : (Nat → Loc) → Nat → List V} {szI : Nat} {m : Nat → Nat} {g : Nat → Nat → List V} {base : Heap} {cb n ck : Nat} {b : NA} (h : NInv L sz row szI m g base cb n ck b) {l0 : Loc} {o : AObj}
    (h1 : cb < l0.1) (h2 : l0.1 < ck) (h3 : L ≠ l0) (h4 : ∀ j, j < b.i → b.nu j ≠ l0) : NInv L sz row szI m g base cb n ck ⟨b.i, b.nu, updH b.H l0 o⟩ := by
  refine ⟨h.le, ?_, fun j hj => ?_, h.lo, h.hi, h.ne, h.inj, fun l hl => ?_, fun l hl => ?_⟩
  · show updH _ _ _ L = _
    rw [updH_ne h3]
    exact h.outer
  · show updH _ _ _ (b.nu j) = _
    rw [updH_ne (h4 j hj)]
    exact h.inner j hj
  · show updH _ _ _ l = _
    rw [updH_ne (by rintro rfl; omega)]
    exact h.base l hl
  · show updH _ _ _ l = _
    rw [updH_ne (by rintro rfl; omega)]
    exact h.free l hl
def updN (nu : Nat → Loc) (i : Nat) (l : Loc) : Nat → Loc := fun j => if j = i then l else nu j
theorem updN_same {nu : Nat → Loc} {i : Nat} {l : Loc} : updN nu i l i = l := if_pos rfl
theorem updN_ne {nu : Nat → Loc} {i j : Nat} {l : Loc} (h : j ≠ i) : updN nu i l j = nu j := if_neg h
/-- One row more. -/
theorem NInv.snoc {L : Loc} {sz : Nat} {row : (Nat → Loc) → Nat → List V} {szI : Nat} {m : Nat → Nat} {g : Nat → Nat → List V} {base : Heap} {cb n ck ck' : Nat} {b : NA} (h : NInv L sz row szI m g base cb n ck b) {l : Loc}
    (hin : b.i < n) (hl : ck ≤ l.1) (hl2 : l.1 < ck') (hL : cb < L.1) (hL2 : L.1 < ck) (hrow : ∀ nu nu' j, nu j = nu' j → row nu j = row nu' j) :
    NInv L sz row szI m g base cb n ck' ⟨b.i + 1, updN b.nu b.i l, updH (updH b.H l (.arr (m b.i) szI (g b.i))) L (.arr (b.i + 1) sz (row (updN b.nu b.i l)))⟩ := by
  have hcb : cb < l.1 := by omega
  have hlL : l ≠ L := fun e => by subst e; omega
  have hnl : ∀ j, j < b.i → b.nu j ≠ l := fun j hj e => by have := h.hi j hj; rw [e] at this; omega
  have key : ∀ j, j < b.i + 1 → (j < b.i ∧ updN b.nu b.i l j = b.nu j) ∨ (j = b.i ∧ updN b.nu b.i l j = l) := fun j hj => by
    by_cases e : j = b.i
    · exact .inr ⟨e, by subst e; exact updN_same⟩
    · exact .inl ⟨by omega, updN_ne e⟩
  refine ⟨Nat.succ_le_of_lt hin, updH_same _ _ _, fun j hj => ?_, fun j hj => ?_, fun j hj => ?_, fun j hj => ?_, fun j k hj hk e => ?_, fun l' hl' => ?_, fun l' hl' => ?_⟩
  · rcases key j hj with ⟨h1, h2⟩ | ⟨rfl, h2⟩
    · show updH _ _ _ (updN b.nu b.i l j) = _
      rw [h2, updH_ne (h.ne j h1), updH_ne (hnl j h1)]
      exact h.inner j h1
    · show updH _ _ _ (updN b.nu b.i l b.i) = _
      rw [h2, updH_ne hlL, updH_same]
  · show cb < (updN b.nu b.i l j).1
    rcases key j hj with ⟨h1, h2⟩ | ⟨rfl, h2⟩ <;> rw [h2]
    · exact h.lo j h1
    · exact hcb
  · show (updN b.nu b.i l j).1 < ck'
    rcases key j hj with ⟨h1, h2⟩ | ⟨rfl, h2⟩ <;> rw [h2]
    · have := h.hi j h1; omega
    · exact hl2
  · show updN b.nu b.i l j ≠ L
    rcases key j hj with ⟨h1, h2⟩ | ⟨rfl, h2⟩ <;> rw [h2]
    · exact h.ne j h1
    · exact hlL
  · have e' : updN b.nu b.i l j = updN b.nu b.i l k := e
    rcases key j hj with ⟨h1, h2⟩ | ⟨rfl, h2⟩ <;> rcases key k hk with ⟨h3, h4⟩ | ⟨rfl, h4⟩ <;> first | rw [h2, h4] at e' | skip
    · exact h.inj j k h1 h3 e'
    · exact absurd e' (hnl j h1)
    · exact absurd e'.symm (hnl k h3)
    · rfl
  · show updH _ _ _ l' = _
    rw [updH_ne (by rintro rfl; omega), updH_ne (by rintro rfl; omega)]
    exact h.base l' hl'
  · show updH _ _ _ l' = _
    rw [updH_ne (by rintro rfl; omega), updH_ne (by rintro rfl; omega)]
    exact h.free l' (by omega)

/-! ### Lists of lists that are written, and read out -/

theorem frzLe.refl {hp : Heap} : ∀ {l : List V}, frzLe hp l l
  | [] => trivial
  | _ :: l => ⟨.inr (.inl rfl), frzLe.refl (l := l)⟩
theorem frzLe.set {hp : Heap} {u v' : V} : ∀ {l l' : List V} {d : Nat}, frzLe hp l l' → l[d]? = some u → VEnt (frz 5 hp u) v' → frzLe hp l (l'.set d v')
  | [], [], d, h, hd, _ => by simp at hd
  | v :: l, w :: l', 0, h, hd, hv => by
    simp only [List.getElem?_cons_zero, Option.some.injEq] at hd
    subst hd
    exact ⟨.inr (.inr hv), h.2⟩
  | v :: l, w :: l', d + 1, h, hd, hv => ⟨h.1, frzLe.set h.2 (by simpa using hd) hv⟩
  | [], _ :: _, _, h, _, _ => h.elim
  | _ :: _, [], _, h, _, _ => h.elim

theorem HpLe.same {hp : Heap} {l : Loc} {a b : AObj} (h : ObjLe a b) : HpLe (updH hp l a) (updH hp l b) := by
  intro l' o' h'
  by_cases e : l' = l
  · subst e
    rw [updH_same] at h' ⊢
    cases h'
    exact ⟨a, rfl, h⟩
  · rw [updH_ne e] at h' ⊢
    exact ⟨o', h', ObjLe.refl _⟩
end Go.Fly
end
section
/- Contracts of walls, tables and what they screen. -/
namespace Go.Fly
open Go

/-- A valid wall. -/
structure WallOk (nm : List UInt8) (ax ay bx ky h ec : Int) : Prop where
  name : nameB nm = true
  p1 : -1000 ≤ ax ∧ ax ≤ 1000
  p2 : -1000 ≤ ay ∧ ay ≤ 1000
  p3 : -1000 ≤ bx ∧ bx ≤ 1000
  p4 : -1000 ≤ ky ∧ ky ≤ 1000
  two : ¬ (ax = bx ∧ ay = ky)
  high : 1 ≤ h ∧ h ≤ 1000
  echo : 0 ≤ ec ∧ ec ≤ 1000
structure WallsOk (n : Nat) (get : Nat → List V) : Prop where
  cnt : n ≤ 32
  wall : ∀ i, i < n → WallOk (wName get i) (cell get i 1) (cell get i 2) (cell get i 3) (cell get i 4) (cell get i 5) (cell get i 6)
  two : ∀ i k, i < n → k < i → wName get k ≠ wName get i

/-! ### Contracts -/

end Go.Fly
end
section
/- Bounds of sides, lengths and depths. -/
namespace Go.Fly
open Go

end Go.Fly
end
section
/- More contracts of walls. -/
namespace Go.Fly
open Go
/-- A key that no entry has. -/
theorem findNow_none {s : List UInt8} {l : List MapEntry} (h : ∀ e ∈ l, ∃ s', e.key = .string ⟨s'.toArray⟩ ∧ s' ≠ s) (i : Nat) : Instr.findNow .string (.string ⟨s.toArray⟩) l i = some none := by
  rcases MapKept.findNow_spec (d := .string) (k := .string ⟨s.toArray⟩) trivial l i (fun x hx => by obtain ⟨s', e, _⟩ := h x hx; rw [e]; trivial) with ⟨h1, _⟩ | ⟨j, e, _, h2, h3⟩
  · exact h1
  · obtain ⟨s', e', hne⟩ := h e (List.mem_of_getElem? h2)
    rw [e'] at h3
    exact absurd (by simpa using h3) hne
end Go.Fly
end
section
/- The fund of the office: the balance of entries, and that it is the fund. -/
namespace Go.Fly.Off
open Go
structure BE where
  in_ : Bool
  home : Str
  amount : Int
deriving Inhabited, DecidableEq
def encBE (x : BE) : List V := [.bool x.in_, .str x.home, .int .i64 x.amount]
def decBE : List V → BE | [a, b, c] => ⟨boolOf a, strOf b, intOf c⟩ | _ => default
theorem dec_be (x : BE) : decBE (encBE x) = x := rfl
theorem decBE_3 {a b c : V} : decBE [a, b, c] = ⟨boolOf a, strOf b, intOf c⟩ := rfl
theorem eta_be (x : BE) : BE.mk x.in_ x.home x.amount = x := rfl
theorem ones_be (x : BE) : Ones (encBE x) := ones_cons (.bool _) rfl (ones_cons (.str _) rfl (ones_cons (.int _ _) rfl ones_nil))
theorem pu_bes (l : List BE) : Pu (encRows 3 encBE l) ↔ True := iff_true_intro (pu_rows (fun x => (ones_be x).pu) l)
theorem dec_bes (l : List BE) : decRows decBE (encRows 3 encBE l) = l := dec_rows 3 encBE decBE dec_be l
theorem dec_besU (l : List BE) : decRows decBE (.sl l.length 3 fun i => [.bool (el l i).in_, .str (el l i).home, .int .i64 (el l i).amount]) = l := dec_bes l
theorem dec_besV (l : List BE) : decRows decBE (.sl l.length 3 fun i => encBE (el l i)) = l := dec_bes l
theorem pu_besV (l : List BE) : Pu (.sl l.length 3 fun i => encBE (el l i)) ↔ True := pu_bes l
theorem pu_besU (l : List BE) : Pu (.sl l.length 3 fun i => [.bool (el l i).in_, .str (el l i).home, .int .i64 (el l i).amount]) ↔ True := pu_bes l
attribute [go_sem] dec_be decBE_3 eta_be pu_bes dec_bes dec_besU dec_besV pu_besV pu_besU
/-- Why an entry is wrong behind others. -/
def beE (b : Int) (p : List Str) (x : BE) : Int :=
  firstL [rng x.amount 1 100000000, err (x.in_ && decide (x.home ≠ [])) 1, err (!x.in_ && !nameB x.home) 8, err (!x.in_ && decide (x.home ∈ p)) 9, err (!x.in_ && decide (b < x.amount)) 23]
def balL : List BE → Int → List Str → Int × Int
  | [], b, _ => (b, 0)
  | x :: l, b, p => if beE b p x ≠ 0 then (0, beE b p x) else if x.in_ = true then balL l (b + x.amount) p else balL l (b - x.amount) (x.home :: p)
/-- What stands behind entries that are right. -/
def balS : List BE → Int → List Str → Option (Int × List Str)
  | [], b, p => some (b, p)
  | x :: l, b, p => if beE b p x ≠ 0 then none else if x.in_ = true then balS l (b + x.amount) p else balS l (b - x.amount) (x.home :: p)
/-- The entries that the law tells, beside the journal. -/
structure TInv (told : List BE) (offers : List Of) (fund : Int) (k : Nat) : Prop where
  len : told.length = k
  run : ∃ p, balS told 0 [] = some (fund, p) ∧ ∀ i, i < 3 → (hN i ∈ p ↔ offers.any (fun x => decide (x.house = hN i)) = true)
theorem TInv.init : TInv [] [] 0 0 := ⟨rfl, [], rfl, by simp⟩
end Go.Fly.Off
end
section
/- Homes with one window through which all passes: contracts. -/
namespace Go.Fly.Off
open Go
/-- A sum of first elements. -/
def sN (f : Nat → Int) : Nat → Int
  | 0 => 0
  | n + 1 => sN f n + f n
def OutOk (f : Nat → Int) : Prop := ∀ i, i < 8 → 0 ≤ f i ∧ f i ≤ 100000000
theorem sN_bd {f : Nat → Int} (h : OutOk f) : ∀ {n : Nat}, n ≤ 8 → 0 ≤ sN f n ∧ sN f n ≤ 100000000 * n
  | 0, _ => ⟨Int.le_refl _, Int.le_refl _⟩
  | n + 1, hn => by
    have h1 := sN_bd h (n := n) (by omega)
    have h2 := h n (by omega)
    show 0 ≤ sN f n + f n ∧ sN f n + f n ≤ _
    omega
def hmRow (f : Nat → Int) : List V := [.int .i64 (f 0), .int .i64 (f 1), .int .i64 (f 2), .int .i64 (f 3), .int .i64 (f 4), .int .i64 (f 5), .int .i64 (f 6), .int .i64 (f 7), .int .i64 100,
  .int .i64 1000, .int .i64 1000, .int .i64 1000, .int .i64 1000, .int .i64 1000, .int .i64 1000, .int .i64 1000, .int .i64 1000, .int .i64 1000, .int .i64 1000, .int .i64 1000, .int .i64 1000, .int .i64 1000, .int .i64 1000, .int .i64 1000, .int .i64 1000]
def homeV (s : Str) (f : Nat → Int) : V := .agg [.str s, .int .i64 0, .sl 1 25 fun _ => hmRow f]
def wSum (cs : List V) : Int := sN (fun i => intOf (cs.getD i .top)) 8
theorem wSum_row {f : Nat → Int} : wSum (hmRow f) = sN f 8 := rfl
theorem wSum_rowU {f : Nat → Int} {r : List V} : wSum (.int .i64 (f 0) :: .int .i64 (f 1) :: .int .i64 (f 2) :: .int .i64 (f 3) :: .int .i64 (f 4) :: .int .i64 (f 5) :: .int .i64 (f 6) :: .int .i64 (f 7) :: r) = sN f 8 := rfl
def hSum : V → Int
  | .agg [_, _, .sl _ _ g] => wSum (g 0)
  | _ => 0
theorem hSum_home {s : Str} {f : Nat → Int} : hSum (homeV s f) = sN f 8 := rfl
theorem hSum_U {a b : V} {n sz : Nat} {f : Nat → Int} : hSum (.agg [a, b, .sl n sz fun _ => hmRow f]) = sN f 8 := rfl
theorem ones_row (f : Nat → Int) : Ones (hmRow f) := by
  unfold hmRow
  repeat' first | exact ones_nil | refine ones_cons (.int _ _) rfl ?_
theorem pu_home (s : Str) (f : Nat → Int) : Pu (homeV s f) ↔ True := iff_true_intro (pu_agg.2 fun v hv => by
  simp only [List.mem_cons, List.not_mem_nil, or_false] at hv
  rcases hv with rfl | rfl | rfl
  · exact .str _
  · exact .int _ _
  · exact pu_sl.2 fun _ _ => (ones_row f).pu)
theorem pu_rowS (n sz : Nat) (f : Nat → Int) : Pu (.sl n sz fun _ => hmRow f) ↔ True := iff_true_intro (pu_sl.2 fun _ _ => (ones_row f).pu)
theorem frz_home {n : Nat} {hp : Heap} (s : Str) (f : Nat → Int) : frz (n + 1) hp (homeV s f) = homeV s f := frz_pu ((pu_home s f).2 trivial)
attribute [go_sem] wSum_row wSum_rowU hSum_home hSum_U pu_home pu_rowS frz_home
def mapIv0C (k : FuncId) : Contract := fun _ args => ⟨∃ n get, args = [.sl n 2 get, .fn (.func k) [] []] ∧ n ≤ 1000 ∧ ∀ i, i < n → get i = [.int .i64 1000, .int .i64 1000],
  .sl (match arg args 0 with | .sl n _ _ => n | _ => 0) 1 fun _ => [.int .i64 0], none⟩
def mapInt0C (k : FuncId) : Contract := fun _ args => ⟨∃ n get, args = [.sl n 1 get, .fn (.func k) [] []] ∧ n ≤ 1000 ∧ IsInts n get ∧ ∀ i, i < n → 0 ≤ intAt get i ∧ intAt get i ≤ 100000000,
  .sl (match arg args 0 with | .sl n _ _ => n | _ => 0) 1 fun _ => [.int .i64 0], none⟩
def pass0C : Contract := fun _ args => ⟨args = [.agg [.int .i64 1000, .int .i64 1000, .int .i64 1000, .int .i64 1000, .int .i64 1000, .int .i64 1000, .int .i64 1000, .int .i64 1000, .int .i64 1000, .int .i64 1000, .int .i64 1000, .int .i64 1000, .int .i64 1000, .int .i64 1000, .int .i64 1000, .int .i64 1000]], .int .i64 0, none⟩
def winC : Contract := fun _ args => ⟨∃ f, args = [.agg (hmRow f)] ∧ OutOk f, .int .i64 0, none⟩
def mapWin0C (k : FuncId) : Contract := fun _ args => ⟨∃ f, args = [.sl 1 25 fun _ => hmRow f, .fn (.func k) [] []] ∧ OutOk f, .sl 1 1 fun _ => [.int .i64 0], none⟩
def chkHomeC : Contract := fun _ args => ⟨∃ s f, args = [homeV s f] ∧ nameB s = true ∧ OutOk f, .int .i64 0, none⟩
def totalC : Contract := fun _ args => ⟨∃ f : Nat → Int, args = [.agg [.int .i64 (f 0), .int .i64 (f 1), .int .i64 (f 2), .int .i64 (f 3), .int .i64 (f 4), .int .i64 (f 5), .int .i64 (f 6), .int .i64 (f 7)]] ∧ OutOk f, .int .i64 (wSum (cellsOf (arg args 0))), none⟩
def winSumC : Contract := fun _ args => ⟨∃ f, args = [.agg (hmRow f)] ∧ OutOk f, .int .i64 (wSum (cellsOf (arg args 0))), none⟩
def mapWinSumC (k : FuncId) : Contract := fun _ args => ⟨∃ f, args = [.sl 1 25 fun _ => hmRow f, .fn (.func k) [] []] ∧ OutOk f, .sl 1 1 fun _ => [.int .i64 (match arg args 0 with | .sl _ _ g => wSum (g 0) | _ => 0)], none⟩
def max1C : Contract := fun _ args => ⟨∃ n : Int, args = [.sl 1 1 fun _ => [.int .i64 n]], (match arg args 0 with | .sl _ _ g => .int .i64 (intOf ((g 0).getD 0 .top)) | _ => .top), none⟩
def homeSumC : Contract := fun _ args => ⟨∃ s f, args = [homeV s f] ∧ OutOk f, .int .i64 (hSum (arg args 0)), none⟩
def outdoorC : Contract := fun _ args => ⟨∃ s f, args = [homeV s f] ∧ nameB s = true ∧ OutOk f, .tup [.int .i64 (hSum (arg args 0)), .int .i64 0], none⟩
def winInC : Contract := fun _ args => ⟨∃ f, args = [.agg (hmRow f)] ∧ OutOk f, .agg [.int .i64 (wSum (cellsOf (arg args 0))), .int .i64 (wSum (cellsOf (arg args 0)))], none⟩
def homeInC : Contract := fun _ args => ⟨∃ s f, args = [homeV s f] ∧ OutOk f, .agg [.int .i64 (hSum (arg args 0)), .int .i64 (hSum (arg args 0))], none⟩
def indoorC : Contract := fun _ args => ⟨∃ s f, args = [homeV s f] ∧ nameB s = true ∧ OutOk f, .tup [.agg [.int .i64 (hSum (arg args 0)), .int .i64 (hSum (arg args 0))], .int .i64 0], none⟩
/-- The energies of a house, by bands. -/
def gE (n : Nat) (get : Nat → List V) (b : Nat) : Int := if b < n then intAt get b else 0
def eHouseC : Contract := fun _ args => ⟨∃ s n get, args = [.str s, .sl n 1 get] ∧ IsInts n get, homeV (strOf (arg args 0)) (match arg args 1 with | .sl n _ g => gE n g | _ => fun _ => 0), none⟩
attribute [go_sem] mapIv0C mapInt0C pass0C winC mapWin0C chkHomeC totalC winSumC mapWinSumC max1C homeSumC outdoorC winInC homeInC indoorC eHouseC
/-- What a loop over the bands has put down. -/
def hCells (g : Nat → Int) (i : Nat) : List V :=
  let a (j : Nat) : V := .int .i64 (if j < i then g j else 0)
  let p (j : Nat) : V := .int .i64 (if j < i then 1000 else 0)
  [a 0, a 1, a 2, a 3, a 4, a 5, a 6, a 7, .int .i64 100, p 0, p 0, p 1, p 1, p 2, p 2, p 3, p 3, p 4, p 4, p 5, p 5, p 6, p 6, p 7, p 7]
theorem isInts_0 {n : Nat} (h : n ≤ 1000000) : IsInts n fun _ => [V.int .i64 0] := ⟨by omega, fun i hi => rfl⟩
theorem pu_rowAt {cells : List V} {n sz : Nat} (h : ∀ v ∈ cells, Pu v) : Pu (.sl n sz (rowAt cells sz)) := pu_sl.2 fun i _ v hv => h v (List.mem_of_mem_drop (List.mem_of_mem_take hv))
theorem row16 : ∀ i, i < 8 → rowAt [V.int .i64 1000, .int .i64 1000, .int .i64 1000, .int .i64 1000, .int .i64 1000, .int .i64 1000, .int .i64 1000, .int .i64 1000, .int .i64 1000, .int .i64 1000, .int .i64 1000, .int .i64 1000, .int .i64 1000, .int .i64 1000, .int .i64 1000, .int .i64 1000] 2 i = [.int .i64 1000, .int .i64 1000] := fun i hi => by
  have : i = 0 ∨ i = 1 ∨ i = 2 ∨ i = 3 ∨ i = 4 ∨ i = 5 ∨ i = 6 ∨ i = 7 := by omega
  rcases this with rfl | rfl | rfl | rfl | rfl | rfl | rfl | rfl <;> rfl
theorem pu_row16 : Pu (.sl 8 2 (rowAt [V.int .i64 1000, .int .i64 1000, .int .i64 1000, .int .i64 1000, .int .i64 1000, .int .i64 1000, .int .i64 1000, .int .i64 1000, .int .i64 1000, .int .i64 1000, .int .i64 1000, .int .i64 1000, .int .i64 1000, .int .i64 1000, .int .i64 1000, .int .i64 1000] 2)) := pu_rowAt fun v hv => by
  simp only [List.mem_cons, List.not_mem_nil, or_false, or_self] at hv
  rw [hv]
  exact .int _ _
theorem rowF {f : Nat → Int} (i : Nat) (hi : i < 8) : rowAt (hmRow f) 1 i = [.int .i64 (f i)] := by
  have : i = 0 ∨ i = 1 ∨ i = 2 ∨ i = 3 ∨ i = 4 ∨ i = 5 ∨ i = 6 ∨ i = 7 := by omega
  rcases this with rfl | rfl | rfl | rfl | rfl | rfl | rfl | rfl <;> rfl
theorem rowI {f : Nat → Int} (i : Nat) (hi : i < 8) : intAt (rowAt (hmRow f) 1) i = f i := by unfold intAt; rw [rowF i hi]
theorem ints_row (f : Nat → Int) : IsInts 8 (rowAt (hmRow f) 1) := ⟨by decide, fun i hi => by rw [rowF i hi, rowI i hi]⟩
theorem pu_rowF (f : Nat → Int) : Pu (.sl 8 1 (rowAt (hmRow f) 1)) := pu_rowAt (ones_row f).pu
theorem name24 {s : Str} (h : nameB s = true) : s.length ≤ 24 := by
  unfold nameB at h
  simp only [Bool.and_eq_true, decide_eq_true_eq] at h
  exact h.1.2
theorem sN_m (f : Nat → Int) (i : Nat) : V.int .i64 (1000 * sN f i + f i * 1000) = V.int .i64 (1000 * sN f (i + 1)) := by
  have : sN f (i + 1) = sN f i + f i := rfl
  rw [this]
  congr 1
  omega
theorem hpLe_new2 {H : Heap} {l : Loc} {a b : AObj} (h : H l = none) : HpLe (updH (updH H l a) l b) H := hpLe_off (L := l) h fun q hq => by rw [updH_ne hq, updH_ne hq]
theorem objLe_cells {a b : List V} (h : a = b) : ObjLe (.cells a) (.cells b) := h ▸ ObjLe.refl _
theorem first3_0 : firstL [firstI (fun _ => 0) 0 8, rng 100 1 100, 0] = 0 := by decide
end Go.Fly.Off
end
