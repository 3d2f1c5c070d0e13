/- Part of a proof: an evaluator of the model's code by abstract values, and plain laws for it. No conditions. -/
import Derived.Test.YtmlknpghkclffaaGreatDoorAR
import Derived.Test.YtmlknpghkclffaaGreatDoorAL
import Derived.Below
import Derived.Sort.Grow
import Derived.Deep.Draws
import Derived.Lib.Join
import Derived.Lib.ItoaLen
import Derived.Lib.LaidTab
set_option linter.unusedSimpArgs false
set_option linter.unusedVariables false
/- Library functions by the kit's contracts; the text of an air. -/
namespace Go.Fly
open Go Go.RowKit Go.Sort
/-- A contract that is proved otherwise: what was there stays, and the result is a value without names. -/
theorem Holds.of_calls {P : Program} {G : Nat → V} {f : FuncId} {C : Contract} (hobj : ∀ rl args, (C rl args).obj = none)
    (h : ∀ (rl : Loc) (args : List V) (w : World) (M : Nat → Prop) (vs : Array Value), (∀ g, R (bareK w M) (G g) (.pointer (some ⟨g, 0, none⟩))) → ArgsR (bareK w M) args vs → (C rl args).pre →
      Calls P f vs w fun e w' => ∃ rv, e = .returned rv ∧ Below w.heap.size w w' ∧ ∀ k, R k (C rl args).val rv) : Holds P G f C := by
  intro rl args w M vs hlt hG hpu hargs hpre
  refine (h rl args w M vs hG hargs hpre).mono ?_
  rintro e w' ⟨rv, rfl, hb, hr⟩
  rw [hobj]
  refine ⟨rv, none, rfl, ⟨hb.os, hb.tape, hb.output, hb.size, fun b hb' _ => hb.block b hb', fun b => ?_, fun b _ hm => ?_, fun b _ _ hm => .inl hm, fun l hl => hl.elim, fun l hl => hl.elim⟩, ⟨fun b hm => ?_, fun b => ?_, fun l o ho => ?_, fun l l' b c c' o o' ho => ?_, fun l o ho => ?_⟩, hr _⟩
  · rintro ⟨l, o, c, h1, h2⟩
    simp [outK, hpAt] at h1
  · rcases hm with q | q
    · exact q
    · exact absurd q.1 (by simp)
  · rcases hm with q | q
    · exact Nat.lt_of_lt_of_le (hlt b q) hb.size
    · exact absurd q.1 (by simp)
  · rintro ⟨l, o, c, h1, h2⟩
    simp [outK, hpAt] at h1
  · simp [outK, hpAt] at ho
  · simp [outK, hpAt] at ho
  · simp [outK, hpAt] at ho
theorem below_grow (w : World) (k : Nat) (os : Array Obj) : Below w.heap.size w (grow (w.drewN k) os) :=
  ⟨rfl, rfl, rfl, by simp [grow, World.drewN], fun i hi => by simp [grow, World.drewN, Array.getElem?_append_left hi]⟩

def strAt (get : Nat → List V) (i : Nat) : List UInt8 := match get i with
  | [.str s] => s
  | _ => []
def IsStrs (n : Nat) (get : Nat → List V) : Prop := n ≤ 9223372036854775807 ∧ ∀ i, i < n → get i = [.str (strAt get i)]
theorem IsStrs.pu {n : Nat} {get : Nat → List V} (h : IsStrs n get) : Pu (.sl n 1 get) := pu_sl.2 fun i hi v hv => by
  rw [h.2 i hi, List.mem_singleton] at hv
  subst hv; exact .str _
def joinB (n : Nat) (get : Nat → List V) (sep : List UInt8) : List UInt8 := Lib.join ((List.range n).map (strAt get)) sep
def itoaC : Contract := fun _ args =>
  match args with
  | [.int .i64 n] => ⟨-9223372036854775808 ≤ n ∧ n ≤ 9223372036854775807, .str (Lib.itoa n), none⟩
  | _ => ⟨False, .top, none⟩
def joinC : Contract := fun _ args =>
  match args with
  | [.sl n sz get, .str sep] => ⟨sz = 1 ∧ IsStrs n get ∧ n ≤ 1000000 ∧ (joinB n get sep).length ≤ 140737488355328, .str (joinB n get sep), none⟩
  | _ => ⟨False, .top, none⟩
attribute [go_sem] itoaC joinC
def strsG (f : Nat → List UInt8) (i : Nat) : List V := [.str (f i)]
theorem isStrs_fn {n : Nat} {f : Nat → List UInt8} (h : n ≤ 9223372036854775807) : IsStrs n (strsG f) := ⟨h, fun i _ => rfl⟩
def mapItoaC (g1 : FuncId) : Contract := fun _ args =>
  match args with
  | [.sl n sz get, .fn (.func g) [] []] => ⟨sz = 1 ∧ IsInts n get ∧ g = g1 ∧ n ≤ 1000000 ∧ ∀ i, i < n → -9223372036854775808 ≤ intAt get i ∧ intAt get i ≤ 9223372036854775807, .sl n 1 (strsG fun i => Lib.itoa (intAt get i)), none⟩
  | _ => ⟨False, .top, none⟩
/-- The numbers of a layer. -/
def lineI (th sp wx wy : Int) (g : Nat → List V) (j : Nat) : Int := if j < 4 then [th, sp, wx, wy].getD j 0 else cell g ((j - 4) / 2) ((j - 4) % 2)
def lineS (th sp wx wy : Int) (g : Nat → List V) (j : Nat) : List UInt8 := if j = 0 then [108, 97, 121, 101, 114] else Lib.itoa (lineI th sp wx wy g (j - 1))
def lineB (th sp wx wy : Int) (m : Nat) (g : Nat → List V) : List UInt8 := Lib.join ((List.range (1 + (4 + 2 * m))).map (lineS th sp wx wy g)) [32] ++ [10]
def lineG (get : Nat → List V) (i : Nat) : List UInt8 := lineB (cell get i 0) (cell get i 1) (cell get i 2) (cell get i 3) (inN get i 4) (inG get i 4)
def In64 (n : Int) : Prop := -9223372036854775808 ≤ n ∧ n ≤ 9223372036854775807
def lineC : Contract := fun _ args =>
  match args with
  | [.agg [.int .i64 th, .int .i64 sp, .int .i64 wx, .int .i64 wy, .sl m sz g]] => ⟨sz = 2 ∧ IsIv m g ∧ m ≤ 1000 ∧ (In64 th ∧ In64 sp ∧ In64 wx ∧ In64 wy) ∧ ∀ i, i < m → In64 (cell g i 0) ∧ In64 (cell g i 1), .str (lineB th sp wx wy m g), none⟩
  | _ => ⟨False, .top, none⟩
def mapLineC (g1 : FuncId) : Contract := fun _ args =>
  match args with
  | [.sl n sz get, .fn (.func g) [] []] => ⟨sz = 5 ∧ IsAir n get ∧ g = g1 ∧ n ≤ 1000000 ∧ ∀ i, i < n → inN get i 4 ≤ 1000 ∧ (In64 (cell get i 0) ∧ In64 (cell get i 1) ∧ In64 (cell get i 2) ∧ In64 (cell get i 3)) ∧ ∀ k, k < inN get i 4 → In64 (cell (inG get i 4) k 0) ∧ In64 (cell (inG get i 4) k 1), .sl n 1 (strsG (lineG get)), none⟩
  | _ => ⟨False, .top, none⟩
def airB (n : Nat) (get : Nat → List V) : List UInt8 := Lib.join ((List.range n).map (lineG get)) []
def print3C : Contract := fun _ args =>
  match args with
  | [.sl n sz get] => ⟨sz = 5 ∧ IsAir n get, orE (airE n get) (.str []) (.str (airB n get)), none⟩
  | _ => ⟨False, .top, none⟩
attribute [go_sem] mapItoaC lineC mapLineC print3C
theorem lens_le {l : List (List UInt8)} {m : Nat} (h : ∀ x ∈ l, x.length ≤ m) : Lib.lens l ≤ m * l.length := by
  unfold Lib.lens
  induction l with
  | nil => simp
  | cons x r ih =>
    have h1 := h x (by simp)
    have h2 := ih fun y hy => h y (by simp [hy])
    simp only [List.map_cons, List.sum_cons, List.length_cons, Nat.mul_add, Nat.mul_one]
    omega
theorem join_le {l : List (List UInt8)} {sep : List UInt8} {m : Nat} (h : ∀ x ∈ l, x.length ≤ m) : (Lib.join l sep).length ≤ (sep.length + m) * l.length := by
  cases l with
  | nil => simp [Lib.join_nil]
  | cons x r =>
    rw [Lib.join_length]
    have h1 := lens_le h
    simp only [List.length_cons, Nat.mul_add, Nat.add_mul, Nat.mul_one] at h1 ⊢
    omega
theorem lineI_64 {th sp wx wy : Int} {m : Nat} {g : Nat → List V} (h : (In64 th ∧ In64 sp ∧ In64 wx ∧ In64 wy) ∧ ∀ i, i < m → In64 (cell g i 0) ∧ In64 (cell g i 1)) {j : Nat} (hj : j < 4 + 2 * m) : In64 (lineI th sp wx wy g j) := by
  unfold lineI
  split
  · rcases j with _ | _ | _ | _ | j
    · exact h.1.1
    · exact h.1.2.1
    · exact h.1.2.2.1
    · exact h.1.2.2.2
    · omega
  · obtain ⟨q1, q2⟩ := h.2 ((j - 4) / 2) (by omega)
    rcases Nat.mod_two_eq_zero_or_one (j - 4) with e | e <;> rw [e] <;> assumption
theorem itoa_len {n : Int} (h : In64 n) : (Lib.itoa n).length ≤ 21 := Lib.itoa_length_le n h.1 h.2
theorem lineB_len {th sp wx wy : Int} {m : Nat} {g : Nat → List V} (h : (In64 th ∧ In64 sp ∧ In64 wx ∧ In64 wy) ∧ ∀ i, i < m → In64 (cell g i 0) ∧ In64 (cell g i 1)) (hm : m ≤ 1000) : (Lib.join ((List.range (1 + (4 + 2 * m))).map (lineS th sp wx wy g)) [32]).length ≤ 100000 := by
  have h1 := join_le (l := (List.range (1 + (4 + 2 * m))).map (lineS th sp wx wy g)) (sep := [32]) (m := 21) fun x hx => by
    obtain ⟨j, hj, rfl⟩ := List.mem_map.1 hx
    have hj := List.mem_range.1 hj
    unfold lineS
    split
    · simp
    · exact itoa_len (lineI_64 h (by omega))
  rw [List.length_map, List.length_range] at h1
  simp only [List.length_cons, List.length_nil] at h1
  omega
end Go.Fly
