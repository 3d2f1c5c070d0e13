/- Part of a proof: an evaluator of the model's code by abstract values, and plain laws for it. No conditions. -/
import Derived.Test.YtfcdodaakhlppaaGreatDoorAH
import Derived.Test.YtfcdodaakhlppaaGreatDoorAI
import Derived.Laws.Externs
import Derived.Test.YtfcdodaakhlppaaGreatDoorAF
import Derived.Test.YtfcdodaakhlppaaGreatDoorAB
import Derived.Lib.Overlaps
set_option linter.unusedSimpArgs false
set_option linter.unusedVariables false
section
/- The office: a plain spec of its journal (events, register), over lists. -/
namespace Go.Fly.Off
open Go
abbrev Str := List UInt8
/-- An element of a list. -/
def el {α : Type} [Inhabited α] (l : List α) (i : Nat) : α := l.getD i default
structure Ev where
  num : Int
  kind : Str
  names : List Str
  vals : List Int
  text : Str
deriving Inhabited, DecidableEq
structure Ty where
  name : Str
  energy : Int
  factor : Int
deriving Inhabited, DecidableEq
structure Ho where
  name : Str
  share : Int
deriving Inhabited, DecidableEq
structure Fl where
  name : Str
  type : Str
  day : Int
  minute : Int
  heard : Int
deriving Inhabited, DecidableEq
structure Mp where
  name : Str
  day : Int
  levels : List Int
deriving Inhabited, DecidableEq
structure Of where
  name : Str
  house : Str
  amount : Int
  paid : Bool
deriving Inhabited, DecidableEq
structure Co where
  name : Str
  house : Str
  day : Int
  minute : Int
  flight : Str
  answered : Int
deriving Inhabited, DecidableEq
structure Reg where
  day : Int := 0
  types : List Ty := []
  houses : List Ho := []
  flights : List Fl := []
  maps : List Mp := []
  offers : List Of := []
  complaints : List Co := []
  fund : Int := 0
deriving Inhabited, DecidableEq
/-- The kinds of events. -/
inductive Kd | type | house | flight | match_ | correct | publish | offer | fund | pay | complain | answer | dismiss | undo
deriving DecidableEq, Inhabited
def Kd.all : List Kd := [.type, .house, .flight, .match_, .correct, .publish, .offer, .fund, .pay, .complain, .answer, .dismiss, .undo]
def Kd.str : Kd → Str
  | .type => [116, 121, 112, 101]
  | .house => [104, 111, 117, 115, 101]
  | .flight => [102, 108, 105, 103, 104, 116]
  | .match_ => [109, 97, 116, 99, 104]
  | .correct => [99, 111, 114, 114, 101, 99, 116]
  | .publish => [112, 117, 98, 108, 105, 115, 104]
  | .offer => [111, 102, 102, 101, 114]
  | .fund => [102, 117, 110, 100]
  | .pay => [112, 97, 121]
  | .complain => [99, 111, 109, 112, 108, 97, 105, 110]
  | .answer => [97, 110, 115, 119, 101, 114]
  | .dismiss => [100, 105, 115, 109, 105, 115, 115]
  | .undo => [117, 110, 100, 111]
def kindOf (s : Str) : Option Kd := Kd.all.find? fun k => decide (k.str = s)
/-- The letters of the names, and how many values there are. -/
def Kd.letters : Kd → List UInt8
  | .type => [84] | .house => [72] | .flight => [70, 116] | .match_ => [102] | .correct => [116] | .publish => [77]
  | .offer => [79, 104] | .fund => [] | .pay => [111] | .complain => [67, 104] | .answer => [99, 102] | .dismiss => [99] | .undo => []
def Kd.values : Kd → Nat
  | .publish => 1 | .pay => 1 | .answer => 1 | .dismiss => 1 | .undo => 0 | _ => 2
def Reg.namesOf (r : Reg) (c : Int) : List Str :=
  if c = 116 then r.types.map (·.name) else if c = 104 then r.houses.map (·.name) else if c = 102 then r.flights.map (·.name) else if c = 109 then r.maps.map (·.name) else if c = 111 then r.offers.map (·.name) else r.complaints.map (·.name)
/-- The place of a name, or the length if it is not there. -/
def place (l : List Str) (s : Str) : Nat := l.findIdx fun x => decide (x = s)
def Reg.typ (r : Reg) (s : Str) : Ty := el r.types (place (r.namesOf 116) s)
def Reg.house (r : Reg) (s : Str) : Ho := el r.houses (place (r.namesOf 104) s)
def Reg.flight (r : Reg) (s : Str) : Fl := el r.flights (place (r.namesOf 102) s)
def Reg.chart (r : Reg) (s : Str) : Mp := el r.maps (place (r.namesOf 109) s)
def Reg.offer (r : Reg) (s : Str) : Of := el r.offers (place (r.namesOf 111) s)
def Reg.complaint (r : Reg) (s : Str) : Co := el r.complaints (place (r.namesOf 99) s)
def Reg.energyAt (r : Reg) (share : Int) (f : Fl) : Int := ((r.typ f.type).energy * (r.typ f.type).factor * share).tdiv 1000000
def Reg.chain (r : Reg) (share : Int) : List (Str × Int) := r.flights.map fun f => (f.name, r.energyAt share f)
def sumOf (l : List (Str × Int)) : Int := l.foldl (fun a x => a + x.2) 0
/-- `lv` is the level of an energy. -/
def Reg.level (lv : Int → Int) (r : Reg) (h : Ho) : Int := lv (sumOf (r.chain h.share))
def Reg.listed (r : Reg) (s : Str) : Option Int := match r.maps.getLast? with
  | none => none
  | some m => m.levels[place (r.namesOf 104) s]?
def Reg.isLoud (r : Reg) (s : Str) : Bool := match r.listed s with
  | none => false
  | some n => decide (60 ≤ n)
def Reg.hasOffer (r : Reg) (s : Str) : Bool := r.offers.any fun x => decide (x.house = s)
def Reg.matched (r : Reg) (s : Str) : List Fl := r.flights.filter fun f => decide (f.heard ≠ -1) && decide (f.type = s)
def Reg.flies (r : Reg) (d : Int) : Bool := r.flights.any fun f => decide (f.day = d)
def Ev.nm (e : Ev) (i : Nat) : Str := el e.names i
def Ev.vl (e : Ev) (i : Nat) : Int := el e.vals i
/-- Why an event of a kind is not accepted (its names are known). -/
def checkK (r : Reg) (e : Ev) : Kd → Int
  | .type => firstL [rng (e.vl 1) 0 1000000000, err (decide (r.types.length = 8)) 5]
  | .house => firstL [rng (e.vl 1) 0 1000, err (decide (r.houses.length = 32)) 5]
  | .flight => firstL [rng (e.vl 1) 0 1439, err (decide (r.flights.length = 64)) 5]
  | .match_ => firstL [rng (e.vl 1) 0 1000000000, err (decide ((r.flight (e.nm 0)).heard ≠ -1)) 9]
  | .correct => firstL [rng (e.vl 1) 1 2000, err (decide ((r.matched (e.nm 0)).length < 3)) 16]
  | .publish => firstL [err (decide (r.houses.length = 0)) 12, err (decide (r.maps.length = 16)) 5]
  | .offer => firstL [rng (e.vl 1) 1 100000000, err (decide (r.maps.length = 0)) 7, err (!r.isLoud (e.nm 1)) 21, err (r.hasOffer (e.nm 1)) 31, err (decide (r.offers.length = 32)) 5]
  | .fund => firstL [rng (e.vl 1) 1 100000000, err (decide (1000000000000 - e.vl 1 < r.fund)) 4]
  | .pay => firstL [err (r.offer (e.nm 0)).paid 23, err (decide (r.fund < (r.offer (e.nm 0)).amount)) 16]
  | .complain => firstL [rng (e.vl 1) 0 1439, err (decide (r.complaints.length = 64)) 5]
  | .answer => firstL [err (decide ((r.complaint (e.nm 0)).answered ≠ -1)) 23, err (decide ((r.flight (e.nm 1)).day ≠ (r.complaint (e.nm 0)).day)) 24]
  | .dismiss => firstL [err (decide ((r.complaint (e.nm 0)).answered ≠ -1)) 23, err (r.flies (r.complaint (e.nm 0)).day) 21]
  | .undo => 0
/-- What an event of a kind does. -/
def applyK (lv : Int → Int) (r : Reg) (e : Ev) : Kd → Reg
  | .type => { r with types := r.types ++ [⟨e.nm 0, e.vl 1, 1000⟩] }
  | .house => { r with houses := r.houses ++ [⟨e.nm 0, e.vl 1⟩] }
  | .flight => { r with flights := r.flights ++ [⟨e.nm 0, e.nm 1, e.vl 0, e.vl 1, -1⟩] }
  | .match_ => { r with flights := r.flights.modify (place (r.namesOf 102) (e.nm 0)) fun f => { f with heard := e.vl 1 } }
  | .correct => { r with types := r.types.modify (place (r.namesOf 116) (e.nm 0)) fun t => { t with factor := e.vl 1 } }
  | .publish => { r with maps := r.maps ++ [⟨e.nm 0, e.vl 0, r.houses.map (r.level lv)⟩] }
  | .offer => { r with offers := r.offers ++ [⟨e.nm 0, e.nm 1, e.vl 1, false⟩] }
  | .fund => { r with fund := r.fund + e.vl 1 }
  | .pay => { r with offers := r.offers.modify (place (r.namesOf 111) (e.nm 0)) (fun x => { x with paid := true }), fund := r.fund - (r.offer (e.nm 0)).amount }
  | .complain => { r with complaints := r.complaints ++ [⟨e.nm 0, e.nm 1, e.vl 0, e.vl 1, [], -1⟩] }
  | .answer => { r with complaints := r.complaints.modify (place (r.namesOf 99) (e.nm 0)) fun x => { x with flight := e.nm 1, answered := e.vl 0 } }
  | .dismiss => { r with complaints := r.complaints.modify (place (r.namesOf 99) (e.nm 0)) fun x => { x with answered := e.vl 0 } }
  | .undo => r
/-- The error of an event's names: the first unknown one, then one that is there twice. -/
def freshAt (ls : List UInt8) (i : Nat) : Bool := decide (((el ls i).toNat : Int) < 97)
def letterAt (ls : List UInt8) (i : Nat) : Int := if freshAt ls i = true then ((el ls i).toNat : Int) + 32 else (el ls i).toNat
def thereAt (r : Reg) (e : Ev) (ls : List UInt8) (i : Nat) : Bool := decide (el e.names i ∈ r.namesOf (letterAt ls i))
def knownL (r : Reg) (e : Ev) (ls : List UInt8) : Int :=
  if (List.range ls.length).any (fun i => !freshAt ls i && !thereAt r e ls i) then 10 else if (List.range ls.length).any (fun i => freshAt ls i && thereAt r e ls i) then 9 else 0
def knownE (r : Reg) (e : Ev) (k : Kd) : Int := knownL r e k.letters
/-- The error of an event by itself. -/
def eventE (e : Ev) : Int := match kindOf e.kind with
  | none => firstL [rng e.num 1 1000, 13]
  | some k => firstL ([rng e.num 1 1000, err (decide (e.names.length ≠ k.letters.length) || decide (e.vals.length ≠ k.values)) 2] ++ e.names.map (fun s => err (!nameB s) 8) ++ e.vals.map (fun v => rng v 0 999999999) ++ [err (decide (e.text ≠ [])) 1])
def applyE (lv : Int → Int) (r : Reg) (e : Ev) : Reg := match kindOf e.kind with
  | none => r
  | some k => { applyK lv r e k with day := e.vl 0 }
def made (lv : Int → Int) (l : List Ev) : Reg := l.foldl (applyE lv) {}
structure Hist where
  events : List Ev := []
  counted : List Ev := []
  now : Reg := {}
deriving Inhabited
def acceptE (h : Hist) (e : Ev) : Int :=
  if e.num ≠ h.events.length + 1 then 11 else match kindOf e.kind with
  | none => 13
  | some .undo => match h.counted.getLast? with
    | none => 12
    | some x => err (decide (x.kind = Kd.str .publish) || decide (x.kind = Kd.str .pay)) 21
  | some k => if e.vl 0 < h.now.day then 22 else if knownE h.now e k ≠ 0 then knownE h.now e k else checkK h.now e k
def addE (lv : Int → Int) (h : Hist) (e : Ev) : Hist :=
  if kindOf e.kind = some .undo then { events := h.events ++ [e], counted := h.counted.dropLast, now := made lv h.counted.dropLast }
  else { events := h.events ++ [e], counted := h.counted ++ [e], now := applyE lv h.now e }
/-- The history of events, the number of the first one that is wrong, and the error. -/
def replayL (lv : Int → Int) : Hist → List Ev → Nat → Hist × Nat × Int
  | h, [], _ => (h, 0, 0)
  | h, e :: l, i =>
    let w := firstL [eventE e, acceptE h e]
    if w ≠ 0 then (h, i + 1, w) else replayL lv (addE lv h e) l (i + 1)
def replayed (lv : Int → Int) (l : List Ev) : Hist × Nat × Int := if 1000 < l.length then ({}, 0, 5) else replayL lv {} l 0
/-- What counts is what the register was made of. -/
theorem add_made (lv : Int → Int) {h : Hist} (hn : h.now = made lv h.counted) (e : Ev) : (addE lv h e).now = made lv (addE lv h e).counted := by
  unfold addE
  split
  · rfl
  · show applyE lv h.now e = made lv (h.counted ++ [e])
    rw [hn]
    unfold made
    rw [List.foldl_append]
    rfl
end Go.Fly.Off
end
section
/- What lets sound pass: steps, transmittances, what arrives, what was emitted. -/
namespace Go.Fly
open Go

end Go.Fly
end
section
/- Contracts of the air: paths, steps, transmittances. -/
namespace Go.Fly
open Go

/-- A valid air. -/
structure AirOk (n : Nat) (get : Nat → List V) : Prop where
  cnt : 0 < n ∧ n ≤ 8
  th : ∀ i, i < n → 1 ≤ cell get i 0 ∧ cell get i 0 ≤ 2000
  bands : 0 < inN get 0 4 ∧ inN get 0 4 ≤ 8
  same : ∀ i, i < n → inN get i 4 = inN get 0 4
  pass : ∀ i, i < n → ∀ b, b < inN get 0 4 → 0 ≤ cell (inG get i 4) b 0 ∧ cell (inG get i 4) b 0 ≤ cell (inG get i 4) b 1 ∧ cell (inG get i 4) b 1 ≤ 1000

/-- A valid path. -/
def PathOk (a b c d e f : Int) : Prop := ((-10000 ≤ a ∧ a ≤ 10000) ∧ (-10000 ≤ b ∧ b ≤ 10000) ∧ 0 ≤ c ∧ c ≤ 10000) ∧ ((-10000 ≤ d ∧ d ≤ 10000) ∧ (-10000 ≤ e ∧ e ≤ 10000) ∧ 0 ≤ f ∧ f ≤ 10000) ∧ ¬ (a = d ∧ b = e ∧ c = f)
theorem frz_flt {n : Nat} {hp : Heap} {k : FloatKind} {i : Nat} : frz (n + 1) hp (.flt k i) = .flt k i := frz_pu (.flt _ _)
attribute [go_sem] frz_flt fltV Bool.false_eq_true
end Go.Fly
end
section
/- Laws for loops over functions. -/
namespace Go.Fly
open Go

theorem inQ_normal0 {X : Cx} {Kn : V → St → Prop} {s : St} : inQ X [] Kn .normal s = Kn (.tup []) s := by
  rw [inQ]
  simp [resultV, resL]
theorem inQ_ret0 {X : Cx} {Kn : V → St → Prop} {s : St} : inQ X [] Kn .ret s = Kn (.tup []) s := by
  rw [inQ]
  simp [resultV, resL]
theorem roundQ_normal {s s2 : St} {dst : Option Tmp} {L : Nat} {r : Loop} {Kn : St → Prop} : roundQ s dst L r Kn .normal s2 =
    (s2.hp (0, L) = some (.raw (.loop { r with state := .busy })) ∧ Kn ⟨s2.ck, putTm s.tm dst (.bool true), updH s2.hp (0, L) (.raw (.loop { r with state := .ready, pending := none }))⟩) := by
  unfold roundQ; simp [jumpOf]
theorem roundQ_exit {s s2 : St} {dst : Option Tmp} {L : Nat} {r : Loop} {Kn : St → Prop} {i : Nat} : roundQ s dst L r Kn (.exit i) s2 =
    (s2.hp (0, L) = some (.raw (.loop { r with state := .busy })) ∧ Kn ⟨s2.ck, putTm s.tm dst (.bool false), updH s2.hp (0, L) (.raw (.loop { r with state := .done, pending := some (.exit i) }))⟩) := by
  unfold roundQ; simp [jumpOf]
theorem roundQ_ret {s s2 : St} {dst : Option Tmp} {L : Nat} {r : Loop} {Kn : St → Prop} : roundQ s dst L r Kn .ret s2 =
    (s2.hp (0, L) = some (.raw (.loop { r with state := .busy })) ∧ Kn ⟨s2.ck, putTm s.tm dst (.bool false), updH s2.hp (0, L) (.raw (.loop { r with state := .done, pending := some .ret }))⟩) := by
  unfold roundQ; simp [jumpOf]
/-- The end of a loop over a function. -/
def pendP (p : Option Code) (A : Prop) (B : Code → Prop) : Prop := match p with
  | none => A
  | some j => B j
theorem pendP_none {A : Prop} {B : Code → Prop} : pendP none A B = A := by rw [pendP]
theorem pendP_some {j : Code} {A : Prop} {B : Code → Prop} : pendP (some j) A B = B j := by rw [pendP]
@[congr] theorem pendP_congr {p p' : Option Code} {A : Prop} {B : Code → Prop} (h : p = p') : pendP p A B = pendP p' A B := by subst h; rfl
def overP (o : Option AObj) (A : Prop) (B : Code → Prop) : Prop := match o with
  | some (.raw (.loop r)) => r.state ≠ .busy ∧ pendP r.pending A B
  | _ => False
theorem overP_raw {r : Loop} {A : Prop} {B : Code → Prop} : overP (some (.raw (.loop r))) A B = (r.state ≠ .busy ∧ pendP r.pending A B) := by rw [overP]
@[congr] theorem overP_congr {p p' : Option AObj} {A : Prop} {B : Code → Prop} (h : p = p') : overP p A B = overP p' A B := by subst h; rfl
theorem drawsOk_exit {D : Tabs} {i : Nat} : drawsOk D (.exit i) = true := by simp [drawsOk]
theorem drawsOk_ret {D : Tabs} : drawsOk D .ret = true := by simp [drawsOk]
theorem dropL_app {L : Nat} {hp : Heap} {l : Loc} : dropL L hp l = if l = (0, L) then none else hp l := rfl

theorem RestT.rangeFunc2 {X : Cx} (hXr : X.r = none) {D : Tabs} {g : Operand} {ps : Array Tmp} {assign body : Code} {s : St} {Q : Exit → St → Prop} {f : FuncId} {cap : List V} {fn : Func} {c : Code}
    (hg : ev X s g = .fn (.func f) [] cap) (hen : Enters X.P f) (hf : X.P.funcs[f]? = some fn) (hb : fn.body = some c) (hfree : ∀ L, s.hp (0, L) = none) {Dc : Tabs} (hdc : drawsOk Dc c = true)
    (h : ∀ (L : Nat) (r : Loop) (k1 : K), r.params = ps → r.assign = assign → r.body = body → r.state = .ready → r.pending = none → TmOk k1 s.tm r.tmps → X.P.follows .mixedOrders = true → drawsOk D assign = true → drawsOk D body = true →
      exC ⟨X.P, X.Γ, X.G, none, k1⟩ Dc c ⟨s.ck + 1, (.fn (.yield L) [] [] :: cap) ++ List.replicate (fn.ntmps - (V.fn (.yield L) [] [] :: cap).length) .top, updH s.hp (0, L) (.raw (.loop r))⟩
        (inQ ⟨X.P, X.Γ, X.G, none, k1⟩ fn.results.toList fun _ s' => overP (s'.hp (0, L)) (Q .normal ⟨s'.ck + 1, s.tm, dropL L s'.hp⟩)
          (fun j => ∀ k0', exC ⟨X.P, X.Γ, X.G, none, k0'⟩ D j ⟨s'.ck + 1, s.tm, dropL L s'.hp⟩ Q ∧ drawsOk D j = true))) : RestT X D (.rangeFunc g ps assign body) s Q := by
  refine RestT.rangeFunc hXr hg hen hf hb hfree hdc fun L r k1 e1 e2 e3 e4 e5 e6 hm h1 h2 => ?_
  refine (congrArg (exC _ _ _ _) ?_).mp (h L r k1 e1 e2 e3 e4 e5 e6 hm h1 h2)
  congr 1
  funext v s'
  apply propext
  constructor
  · intro q
    unfold overP at q
    split at q
    · rename_i o r' ho
      refine ⟨r', ho, q.1, ?_⟩
      have q2 := q.2
      unfold pendP at q2
      exact q2
    · exact q.elim
  · rintro ⟨r', ho, h1, h2⟩
    rw [ho, overP_raw]
    refine ⟨h1, ?_⟩
    unfold pendP
    exact h2
attribute [go_sem] reduceCtorEq pendP_none pendP_some overP_raw drawsOk_exit drawsOk_ret dropL_app
theorem loop_eta {r : Loop} {ps : Array Tmp} {a b : Code} (e1 : r.params = ps) (e2 : r.assign = a) (e3 : r.body = b) (e4 : r.state = .ready) (e5 : r.pending = none) :
    ({ state := .ready, pending := none, fn := r.fn, tmps := r.tmps, params := ps, assign := a, body := b, defers := r.defers } : Loop) = r := by
  cases r; simp_all
theorem cast1 : ((1 : Nat) : Int) = 1 := rfl
theorem cast2 : ((2 : Nat) : Int) = 2 := rfl
theorem cast4 : ((4 : Nat) : Int) = 4 := rfl
theorem cast8 : ((8 : Nat) : Int) = 8 := rfl
attribute [go_sem] cast1 cast2 cast4 cast8 inQ_normal0 inQ_ret0 roundQ_normal roundQ_exit roundQ_ret setTs
end Go.Fly
end
section
/- Calls that are walked where they stand; loops that keep what depends on the names; all that the call owns read out. -/
namespace Go.Fly
open Go

/-- A call whose body is walked with what the caller owns. -/
theorem CallT.inline {X : Cx} (hX : X.Ok) {f : FuncId} {fn : Func} {c : Code} (hf : X.P.funcs[f]? = some fn) (hb : fn.body = some c) (hm : X.P.follows .mixedOrders = true) {D : Tabs} (hd : drawsOk D c = true)
    (Γ : FuncId → Option Contract) (hΓ : ∀ g C, Γ g = some C → Holds X.P X.G g C) {hp : Heap} {ck : Nat} {args : List V} {Kn : V → Heap → Nat → Prop}
    (h : ∀ k1, exC ⟨X.P, Γ, X.G, none, k1⟩ D c ⟨ck + 1, args ++ List.replicate (fn.ntmps - args.length) .top, hp⟩ (inQ ⟨X.P, Γ, X.G, none, k1⟩ fn.results.toList fun v s' => Kn v s'.hp s'.ck)) : CallT X hp ck f args Kn := by
  intro w M B vs hst hho hargs
  have hG0 : ∀ g, R (mkK w M B hp ck) (X.G g) (.pointer (some ⟨g, 0, none⟩)) := fun g => (hX.G0 g).step hst hX.own
  have hX1 : (⟨X.P, Γ, X.G, none, mkK w M B hp ck⟩ : Cx).Ok := ⟨hΓ, hX.G, hG0, fun b hb => (hho.own b hb).1⟩
  refine (calls_of_T hf hb hΓ hX.G hho hG0 hargs (Kn := fun v s' => Kn v s'.hp s'.ck) (exC_ok hX1 hm c _ _ hd (h (mkK w M B hp ck)))).mono fun e w' ⟨rv, v, s', M', B', h1, h2, h3, h4, h5⟩ => ?_
  exact ⟨rv, v, s'.hp, s'.ck, M', B', h1, h2, h3, h4, h5⟩

def finK (v : Option V) (s : St) (Kn : V → St → Prop) : Prop := match v with
  | some v => Kn v s
  | none => False
theorem finK_some {v : V} {s : St} {Kn : V → St → Prop} : finK (some v) s Kn = Kn v s := by rw [finK]
@[congr] theorem finK_congr {v v' : Option V} {s : St} {Kn : V → St → Prop} (h : v = v') : finK v s Kn = finK v' s Kn := by subst h; rfl
theorem inQ_one {X : Cx} {r : ResultVar} {Kn : V → St → Prop} {s : St} {e : Exit} (he : e = .normal ∨ e = .ret) : inQ X [r] Kn e s = finK (res1 X s r) s Kn := by
  have key : (∃ v, resultV X s [r] = some v ∧ Kn v s) = finK (res1 X s r) s Kn := by
    unfold resultV resL finK
    cases h : res1 X s r with
    | none => simp [resL]
    | some v => simp [resL]
  rcases he with rfl | rfl <;> rw [inQ] <;> exact key
theorem inQ_normal1 {X : Cx} {r : ResultVar} {Kn : V → St → Prop} {s : St} : inQ X [r] Kn .normal s = finK (res1 X s r) s Kn := inQ_one (.inl rfl)
theorem inQ_ret1 {X : Cx} {r : ResultVar} {Kn : V → St → Prop} {s : St} : inQ X [r] Kn .ret s = finK (res1 X s r) s Kn := inQ_one (.inr rfl)
attribute [go_sem] finK_some inQ_normal1 inQ_ret1
theorem T.post {X : Cx} {c : Code} {s : St} {Q : Exit → St → Prop} (h : T X c s (fun e s' => ∃ s2, Ents X.k0 s' s2 ∧ Q e s2)) : T X c s Q :=
  fun a w hr => wpIn_mono (h a w hr) fun e a' w' ⟨s', ⟨s2, h1, h2⟩, h3⟩ => ⟨s2, h2, h1 a' w' h3⟩

/-- Slot by slot the same, nothing, or what it holds read out. -/
def frzLe (hp : Heap) : List V → List V → Prop
  | [], [] => True
  | v :: l, v' :: l' => (v' = .top ∨ v' = v ∨ VEnt (frz 5 hp v) v') ∧ frzLe hp l l'
  | _, _ => False
theorem frzLe.spec {hp : Heap} : ∀ {l l' : List V}, frzLe hp l l' → l'.length = l.length ∧ ∀ (d : Nat) (v' : V), l'[d]? = some v' → ∃ v, l[d]? = some v ∧ (v' = .top ∨ v' = v ∨ VEnt (frz 5 hp v) v')
  | [], [], _ => ⟨rfl, fun d v h => by simp at h⟩
  | v :: l, v' :: l', h => by
    obtain ⟨h1, h2⟩ := frzLe.spec h.2
    refine ⟨by simp [h1], fun d u hu => ?_⟩
    cases d with
    | zero =>
      simp only [List.getElem?_cons_zero, Option.some.injEq] at hu ⊢
      subst hu
      exact ⟨v, rfl, h.1⟩
    | succ d => simpa using h2 d u (by simpa using hu)
  | [], _ :: _, h => h.elim
  | _ :: _, [], h => h.elim

end Go.Fly
end
section
/- States whose slots are a function: what is written is not spread over a list. -/
namespace Go.Fly
open Go

def updF (f : Nat → V) (d : Nat) (v : V) : Nat → V := fun e => if e = d then v else f e
def mkT (n : Nat) (f : Nat → V) : List V := (List.range n).map f
def argF (args : List V) : Nat → V := fun e => args.getD e .top
theorem mkT_length {n : Nat} {f : Nat → V} : (mkT n f).length = n := by simp [mkT]
theorem mkT_get {n : Nat} {f : Nat → V} {e : Nat} : (mkT n f)[e]? = if n ≤ e then none else some (f e) := by
  unfold mkT
  rw [List.getElem?_map]
  by_cases h : n ≤ e
  · rw [if_pos h, List.getElem?_eq_none (by simpa using h)]; rfl
  · rw [if_neg h, List.getElem?_range (by omega)]; rfl
theorem mkT_set {n : Nat} {f : Nat → V} {d : Nat} {v : V} : (mkT n f).set d v = mkT n (updF f d v) := by
  apply List.ext_getElem?
  intro e
  rw [List.getElem?_set, mkT_get, mkT_get, mkT_length]
  unfold updF
  by_cases h : d = e
  · subst h
    by_cases h2 : n ≤ d
    · simp [h2]
    · simp [h2]
  · have : ¬ e = d := fun q => h q.symm
    simp [h, this]
theorem updF_app {f : Nat → V} {d e : Nat} {v : V} : updF f d v e = if e = d then v else f e := rfl
theorem argF_app {args : List V} {e : Nat} : argF args e = args.getD e .top := rfl
theorem enter_mkT {args : List V} {n : Nat} (h : args.length ≤ n) : St.enter args n = ⟨1, mkT n (argF args), fun _ => none⟩ := by
  unfold St.enter
  congr 1
  apply List.ext_getElem?
  intro e
  rw [mkT_get]
  unfold argF
  by_cases h1 : e < args.length
  · rw [List.getElem?_append_left h1, if_neg (by omega), List.getD_eq_getElem?_getD, List.getElem?_eq_getElem h1]; rfl
  · rw [List.getElem?_append_right (by omega)]
    by_cases h2 : n ≤ e
    · rw [if_pos h2, List.getElem?_eq_none (by simp; omega)]
    · rw [if_neg h2, List.getElem?_replicate, if_pos (by omega), List.getD_eq_getElem?_getD, List.getElem?_eq_none (by omega)]; rfl
theorem app_mkT {args : List V} {n : Nat} (h : args.length ≤ n) : args ++ List.replicate (n - args.length) .top = mkT n (argF args) := by
  have := congrArg St.tm (enter_mkT h)
  exact this

/-- Slots that a loop writes, as intervals. -/
def inD : List (Nat × Nat) → Nat → Prop
  | [], _ => False
  | (a, b) :: l, e => (a ≤ e ∧ e ≤ b) ∨ inD l e
def topF : List (Nat × Nat) → (Nat → V) → Nat → V
  | [], f => f
  | (a, b) :: l, f => fun e => if a ≤ e then (if e ≤ b then .top else topF l f e) else topF l f e
def setF : List (Nat × V) → (Nat → V) → Nat → V
  | [], f => f
  | (d, v) :: l, f => setF l (updF f d v)
theorem topF_nil {f : Nat → V} : topF [] f = f := rfl
theorem topF_app {a b : Nat} {l : List (Nat × Nat)} {f : Nat → V} {e : Nat} : topF ((a, b) :: l) f e = if a ≤ e then (if e ≤ b then .top else topF l f e) else topF l f e := rfl
theorem setF_nil {f : Nat → V} : setF [] f = f := rfl
theorem setF_cons {d : Nat} {v : V} {l : List (Nat × V)} {f : Nat → V} : setF ((d, v) :: l) f = setF l (updF f d v) := rfl
theorem inD_nil {e : Nat} : inD [] e = False := propext ⟨id, id⟩
theorem inD_cons {a b : Nat} {l : List (Nat × Nat)} {e : Nat} : inD ((a, b) :: l) e = ((a ≤ e ∧ e ≤ b) ∨ inD l e) := propext ⟨id, id⟩
theorem topF_in {l : List (Nat × Nat)} {f : Nat → V} {e : Nat} (h : inD l e) : topF l f e = .top := by
  induction l with
  | nil => exact h.elim
  | cons x l ih =>
    obtain ⟨a, b⟩ := x
    rw [topF_app]
    rcases h with h | h
    · rw [if_pos h.1, if_pos h.2]
    · rw [ih h]; split <;> (try split) <;> rfl
theorem topF_out {l : List (Nat × Nat)} {f : Nat → V} {e : Nat} (h : ¬ inD l e) : topF l f e = f e := by
  induction l with
  | nil => rfl
  | cons x l ih =>
    obtain ⟨a, b⟩ := x
    rw [topF_app, ih fun q => h (.inr q)]
    split
    · split
      · rename_i h1 h2; exact (h (.inl ⟨h1, h2⟩)).elim
      · rfl
    · rfl
/-- The slots that a loop does not write are as they were. -/
def Off (n : Nat) (dead : List (Nat × Nat)) (g f : Nat → V) : Prop := ∀ e, e < n → ¬ inD dead e → g e = f e
theorem Off.upd {n : Nat} {dead : List (Nat × Nat)} {g f : Nat → V} {d : Nat} {v : V} (hd : inD dead d) : Off n dead (updF g d v) f = Off n dead g f := by
  apply propext
  constructor
  · intro h e hn he
    rw [← h e hn he, updF_app, if_neg (by rintro rfl; exact he hd)]
  · intro h e hn he
    rw [updF_app, if_neg (by rintro rfl; exact he hd)]; exact h e hn he
theorem Off.top {n : Nat} {dead : List (Nat × Nat)} {f : Nat → V} : Off n dead (topF dead f) f = True := eq_true fun e _ he => topF_out he
theorem Off.refl {n : Nat} {dead : List (Nat × Nat)} {f : Nat → V} : Off n dead f f = True := eq_true fun e _ he => rfl
def eqL (g : Nat → V) : List (Nat × V) → Prop
  | [] => True
  | (d, v) :: l => g d = v ∧ eqL g l
theorem eqL_nil {g : Nat → V} : eqL g [] = True := rfl
theorem eqL_cons {g : Nat → V} {d : Nat} {v : V} {l : List (Nat × V)} : eqL g ((d, v) :: l) = (g d = v ∧ eqL g l) := rfl
/-- What a slot of the beginning of a round holds: what the list says last, or nothing that is known, or what it held. -/
theorem setF_app {l : List (Nat × V)} {g : Nat → V} {dead : List (Nat × Nat)} (hg : eqL g l) : ∀ {f : Nat → V} {e : Nat}, (f e = .top ∨ f e = g e) → setF l f e = .top ∨ setF l f e = g e := by
  induction l with
  | nil => intro f e h; exact h
  | cons x l ih =>
    intro f e h
    obtain ⟨d, v⟩ := x
    rw [setF_cons]
    refine ih hg.2 ?_
    rw [updF_app]
    by_cases q : e = d
    · subst q; rw [if_pos rfl]; exact .inr hg.1.symm
    · rw [if_neg q]; exact h
theorem tmLe_mkT {n : Nat} {f g : Nat → V} (h : ∀ e, e < n → f e = .top ∨ f e = g e) : tmLe (mkT n g) (mkT n f) := by
  have key : ∀ (l : List Nat), (∀ e ∈ l, f e = .top ∨ f e = g e) → tmLe (l.map g) (l.map f) := by
    intro l
    induction l with
    | nil => intro _; trivial
    | cons e l ih =>
      intro h
      refine ⟨?_, ih fun e he => h e (by simp [he])⟩
      rcases h e (by simp) with q | q
      · exact .inl q
      · exact .inr q.symm
  exact key _ fun e he => h e (by simpa using he)
/-- What is asked of the slots behind a round. -/
def LeT (tm : List V) (n : Nat) (live : List (Nat × V)) (dead : List (Nat × Nat)) (f : Nat → V) : Prop := tm.length = n ∧ eqL (fun e => tm.getD e .top) live ∧ Off n dead (fun e => tm.getD e .top) f
theorem LeT_mk {n : Nat} {g : Nat → V} {live : List (Nat × V)} {dead : List (Nat × Nat)} {f : Nat → V} : LeT (mkT n g) n live dead f = (eqL (fun e => (mkT n g).getD e .top) live ∧ Off n dead g f) := by
  unfold LeT Off
  rw [mkT_length]
  apply propext
  have hg : ∀ e, e < n → (mkT n g).getD e .top = g e := fun e he => by
    rw [List.getD_eq_getElem?_getD, mkT_get, if_neg (by omega)]; rfl
  constructor
  · rintro ⟨_, h1, h2⟩
    exact ⟨h1, fun e he hn => by rw [← hg e he]; exact h2 e he hn⟩
  · rintro ⟨h1, h2⟩
    exact ⟨rfl, h1, fun e he hn => by show (mkT n g).getD e .top = _; rw [hg e he]; exact h2 e he hn⟩
theorem LeT.le {tm : List V} {n : Nat} {live : List (Nat × V)} {dead : List (Nat × Nat)} {f : Nat → V} (h : LeT tm n live dead f) : tmLe tm (mkT n (setF live (topF dead f))) := by
  obtain ⟨h0, h1, h2⟩ := h
  have e1 : tm = mkT n (fun e => tm.getD e .top) := by
    apply List.ext_getElem?
    intro e
    rw [mkT_get]
    by_cases q : n ≤ e
    · rw [if_pos q, List.getElem?_eq_none (by omega)]
    · rw [if_neg q, List.getD_eq_getElem?_getD, List.getElem?_eq_getElem (by omega)]; rfl
  generalize hgg : (fun e => tm.getD e .top) = g at *
  rw [e1]
  refine tmLe_mkT fun e he => setF_app (dead := dead) h1 ?_
  by_cases q : inD dead e
  · exact .inl (topF_in q)
  · rw [topF_out q]; exact .inr (h2 e he q).symm
theorem LeT.start {n : Nat} {f : Nat → V} {live : List (Nat × V)} {dead : List (Nat × Nat)} (h : eqL f live) : tmLe (mkT n f) (mkT n (setF live (topF dead f))) := by
  refine tmLe_mkT fun e he => setF_app (dead := dead) h ?_
  by_cases q : inD dead e
  · exact .inl (topF_in q)
  · rw [topF_out q]; exact .inr rfl

theorem RestT.loopF {X : Cx} {D : Tabs} {c : Code} {ck n : Nat} {f : Nat → V} {hp : Heap} {Q : Exit → St → Prop} {β : Type} (dead : List (Nat × Nat)) (live : β → List (Nat × V)) (hpf : β → Heap) (Inv : β → Prop) (μ : β → Nat) (b0 : β)
    (hI : Inv b0) (h0 : eqL f (live b0)) (hh : HpLe hp (hpf b0))
    (round : ∀ ck' b, ck ≤ ck' → Inv b → exC X D c ⟨ck', mkT n (setF (live b) (topF dead f)), hpf b⟩
      (seqQ (fun s' => ck ≤ s'.ck ∧ ∃ b', Inv b' ∧ μ b' < μ b ∧ LeT s'.tm n (live b') dead f ∧ HpLe s'.hp (hpf b')) Q)) : RestT X D (.loop c) ⟨ck, mkT n f, hp⟩ Q := by
  intro hd hX hm
  refine T.loop (α := { x : Nat × β // ck ≤ x.1 ∧ Inv x.2 }) (fun x => ⟨x.1.1, mkT n (setF (live x.1.2) (topF dead f)), hpf x.1.2⟩) (fun x => μ x.1.2) ⟨(ck + 1, b0), by simp, hI⟩ (Ents.go (LeT.start h0) hh) ?_
  rintro ⟨⟨ck', b⟩, h1, h2⟩
  refine T.mono (exC_ok hX hm c _ _ hd (round ck' b h1 h2)) fun e s' q => ?_
  cases e with
  | normal =>
    obtain ⟨q1, b', q2, q3, q4, q5⟩ := q
    obtain ⟨c1, t1, p1⟩ := s'
    exact ⟨⟨(c1 + 1, b'), by simp at q1 ⊢; omega, q2⟩, Ents.go q4.le q5, q3⟩
  | _ => exact q

theorem RestT.loopG {X : Cx} {D : Tabs} {c : Code} {ck n : Nat} {f : Nat → V} {hp : Heap} {Q : Exit → St → Prop} {β : Type} (dead : List (Nat × Nat)) (live : β → List (Nat × V)) (hpf : β → Heap) (Inv : Nat → β → Prop) (μ : β → Nat) (b0 : β)
    (hI : Inv (ck + 1) b0) (h0 : eqL f (live b0)) (hh : HpLe hp (hpf b0))
    (round : ∀ ck' b, ck < ck' → Inv ck' b → exC X D c ⟨ck', mkT n (setF (live b) (topF dead f)), hpf b⟩
      (seqQ (fun s' => ck ≤ s'.ck ∧ ∃ b', Inv (s'.ck + 1) b' ∧ μ b' < μ b ∧ LeT s'.tm n (live b') dead f ∧ HpLe s'.hp (hpf b')) fun e s' => ∃ s2, Ents X.k0 s' s2 ∧ Q e s2)) : RestT X D (.loop c) ⟨ck, mkT n f, hp⟩ Q := by
  intro hd hX hm
  refine T.post (T.loop (α := { x : Nat × β // ck < x.1 ∧ Inv x.1 x.2 }) (fun x => ⟨x.1.1, mkT n (setF (live x.1.2) (topF dead f)), hpf x.1.2⟩) (fun x => μ x.1.2) ⟨(ck + 1, b0), by simp, hI⟩ (Ents.go (LeT.start h0) hh) ?_)
  rintro ⟨⟨ck', b⟩, h1, h2⟩
  refine T.mono (exC_ok hX hm c _ _ hd (round ck' b h1 h2)) fun e s' q => ?_
  cases e with
  | normal =>
    obtain ⟨q1, b', q2, q3, q4, q5⟩ := q
    obtain ⟨c1, t1, p1⟩ := s'
    exact ⟨⟨(c1 + 1, b'), by simp at q1 ⊢; omega, q2⟩, Ents.go q4.le q5, q3⟩
  | _ => exact q

theorem updF_same {f : Nat → V} {d : Nat} {v : V} : updF f d v d = v := by rw [updF_app, if_pos rfl]
theorem updF_ne {f : Nat → V} {d e : Nat} {v : V} (h : ¬ e = d) : updF f d v e = f e := by rw [updF_app, if_neg h]
theorem mkT_getD {n : Nat} {f : Nat → V} {e : Nat} (h : ¬ n ≤ e) : (mkT n f).getD e .top = f e := by rw [List.getD_eq_getElem?_getD, mkT_get, if_neg h]; rfl
theorem mkT_get1 {n : Nat} {f : Nat → V} {e : Nat} (h : ¬ n ≤ e) : (mkT n f)[e]? = some (f e) := by rw [mkT_get, if_neg h]
theorem topF_hit {a b : Nat} {l : List (Nat × Nat)} {f : Nat → V} {e : Nat} (h1 : a ≤ e) (h2 : e ≤ b) : topF ((a, b) :: l) f e = .top := by rw [topF_app, if_pos h1, if_pos h2]
theorem topF_lo {a b : Nat} {l : List (Nat × Nat)} {f : Nat → V} {e : Nat} (h1 : ¬ a ≤ e) : topF ((a, b) :: l) f e = topF l f e := by rw [topF_app, if_neg h1]
theorem topF_hi {a b : Nat} {l : List (Nat × Nat)} {f : Nat → V} {e : Nat} (h2 : ¬ e ≤ b) : topF ((a, b) :: l) f e = topF l f e := by rw [topF_app, if_neg h2]; split <;> rfl
attribute [go_sem] mkT_get1 mkT_set updF_same updF_ne argF_app topF_nil topF_hit topF_lo topF_hi setF_nil setF_cons inD_nil inD_cons Off.upd Off.top Off.refl eqL_nil eqL_cons LeT_mk
/-- What is tried ahead. -/
theorem upXAbsZa : type_of% (@mkT_getD) := @mkT_getD
end Go.Fly
end
section
/- An array of the call's own gets a fixed block under a new name; an array with a fixed block is frozen. -/
namespace Go.Fly
open Go

/-- An array of the call's own, from now on by its block. -/
theorem rename_ok {w : World} {M : Nat → Prop} {B : Loc → Option (Nat × Nat)} {hp : Heap} {ck : Nat} (hk : HeapOk (mkK w M B hp ck)) {l l' : Loc} {n sz : Nat} {get : Nat → List V} (hl : hp l = some (.arr n sz get)) (hn : 0 < n) (hl' : hp l' = none) (hck : l'.1 = ck) :
    ∃ B' c, n ≤ c ∧ Step (mkK w M B hp ck) (mkK w M B' (updH (updH hp l .dead) l' (.buf c sz (fun i => if i < n then get i else List.replicate sz .top))) ck) ∧
      HeapOk (mkK w M B' (updH (updH hp l .dead) l' (.buf c sz (fun i => if i < n then get i else List.replicate sz .top))) ck) ∧
      ∀ cv, R (mkK w M B hp ck) (.msl l 0 n) cv → R (mkK w M B' (updH (updH hp l .dead) l' (.buf c sz (fun i => if i < n then get i else List.replicate sz .top))) ck) (.bsl l' 0 n) cv := by
  obtain ⟨g1, g2, g3⟩ := hk.obj l _ hl
  cases hB : (mkK w M B hp ck).B l with
  | none => simp only [hB] at g3; omega
  | some bc =>
    obtain ⟨b, c⟩ := bc
    simp only [hB] at g3
    obtain ⟨hnc, xs, ty, fz, hh, hz, hs, hr⟩ := g3
    have hBl : B l = some (b, c) := hB
    have hne : l ≠ l' := fun e => by rw [e, hl'] at hl; cases hl
    have hnm : ¬ (mkK w M B hp ck).nm l' := by
      intro h; rcases h with h | ⟨_, h⟩
      · omega
      · simp [hl'] at h
    refine ⟨updB (updB B l none) l' (some (b, c)), c, hnc, ?_⟩
    generalize hob : AObj.buf c sz (fun i => if i < n then get i else List.replicate sz .top) = ob
    have h1 : ∀ x : Loc, x ≠ l → x ≠ l' → updH (updH hp l .dead) l' ob x = hp x ∧ updB (updB B l none) l' (some (b, c)) x = B x := fun x e1 e2 => ⟨by rw [updH_ne e2, updH_ne e1], by rw [updB_ne e2, updB_ne e1]⟩
    have h2 : updH (updH hp l .dead) l' ob l = some .dead ∧ updB (updB B l none) l' (some (b, c)) l = none := ⟨by rw [updH_ne hne, updH_same], by rw [updB_ne hne, updB_same]⟩
    have h3 : updH (updH hp l .dead) l' ob l' = some ob ∧ updB (updB B l none) l' (some (b, c)) l' = some (b, c) := ⟨updH_same .., updB_same ..⟩
    let k' : K := mkK w M (updB (updB B l none) l' (some (b, c))) (updH (updH hp l .dead) l' ob) ck
    have hcase : ∀ x : Loc, x = l ∨ x = l' ∨ (x ≠ l ∧ x ≠ l') := fun x => by
      by_cases e1 : x = l
      · exact .inl e1
      · by_cases e2 : x = l'
        · exact .inr (.inl e2)
        · exact .inr (.inr ⟨e1, e2⟩)
    have hown : ∀ x, k'.owned x → (mkK w M B hp ck).owned x := by
      rintro x ⟨l2, o2, c2, q1, q2⟩
      rcases hcase l2 with e | e | ⟨e1, e2⟩
      · subst e
        have : updB (updB B l2 none) l' (some (b, c)) l2 = some (x, c2) := q2
        rw [h2.2] at this; cases this
      · subst e
        have : updB (updB B l none) l2 (some (b, c)) l2 = some (x, c2) := q2
        rw [h3.2] at this
        cases this
        exact ⟨l, _, c, hl, hBl⟩
      · have q1' : updH (updH hp l .dead) l' ob l2 = some o2 := q1
        have q2' : updB (updB B l none) l' (some (b, c)) l2 = some (x, c2) := q2
        rw [(h1 l2 e1 e2).1] at q1'
        rw [(h1 l2 e1 e2).2] at q2'
        exact ⟨l2, o2, c2, q1', q2'⟩
    have hnm' : ∀ x, (mkK w M B hp ck).nm x → k'.nm x := fun x h => nm_upd (nm_upd h)
    have st : Step (mkK w M B hp ck) k' := by
      refine ⟨rfl, rfl, rfl, Nat.le_refl _, fun _ _ _ => rfl, fun x hx => .inl (hown x hx), fun x _ hm => hm, fun x _ _ hm => hm, hnm', fun l2 hl2 o2 ho2 => ?_⟩
      have ho2' : updH (updH hp l .dead) l' ob l2 = some o2 := ho2
      rcases hcase l2 with e | e | ⟨e1, e2⟩
      · subst e
        rw [h2.1] at ho2'
        cases ho2'
        trivial
      · subst e
        exact absurd hl2 hnm
      · rw [(h1 l2 e1 e2).1] at ho2'
        have q := (Step.refl (mkK w M B hp ck)).names l2 hl2 o2 ho2'
        cases o2 with
        | dead => trivial
        | raw r => trivial
        | cells cs => exact ⟨q.1, (h1 l2 e1 e2).2⟩
        | buf _ _ _ => exact ⟨q.1, (h1 l2 e1 e2).2⟩
        | arr n sz get => obtain ⟨n0, g0, q1, q2, q3⟩ := q; exact ⟨n0, g0, q1, q2, fun _ => (h1 l2 e1 e2).2⟩
    have hpb : ∀ x c2 o2, hp x = some o2 → B x = some (b, c2) → x = l := fun x c2 o2 q1 q2 => hk.inj x l b c2 c o2 _ q1 hl q2 hBl
    refine ⟨st, ⟨fun x hx => hk.lt x hx, fun x hx => hk.own x (hown x hx), fun l2 o2 q => ?_, fun l1 l2 x c1 c2 o1 o2 q1 q2 q3 q4 => ?_, fun l2 o2 q => ?_⟩, ?_⟩
    · have q' : updH (updH hp l .dead) l' ob l2 = some o2 := q
      rcases hcase l2 with e | e | ⟨e1, e2⟩
      · subst e; exact hnm' _ (hk.nm l2 _ hl)
      · subst e; exact .inr ⟨hck, by show (updH (updH hp l .dead) l2 ob l2).isSome = true; rw [h3.1]; rfl⟩
      · rw [(h1 l2 e1 e2).1] at q'
        exact hnm' _ (hk.nm l2 o2 q')
    · have q1' : updH (updH hp l .dead) l' ob l1 = some o1 := q1
      have q2' : updH (updH hp l .dead) l' ob l2 = some o2 := q2
      have q3' : updB (updB B l none) l' (some (b, c)) l1 = some (x, c1) := q3
      have q4' : updB (updB B l none) l' (some (b, c)) l2 = some (x, c2) := q4
      rcases hcase l1 with e | e | ⟨e1, e2⟩
      · rw [e, h2.2] at q3'; cases q3'
      · rcases hcase l2 with f | f | ⟨f1, f2⟩
        · rw [f, h2.2] at q4'; cases q4'
        · rw [e, f]
        · rw [e, h3.2] at q3'
          cases q3'
          rw [(h1 l2 f1 f2).1] at q2'; rw [(h1 l2 f1 f2).2] at q4'
          exact absurd (hpb l2 c2 o2 q2' q4') f1
      · rw [(h1 l1 e1 e2).1] at q1'; rw [(h1 l1 e1 e2).2] at q3'
        rcases hcase l2 with f | f | ⟨f1, f2⟩
        · rw [f, h2.2] at q4'; cases q4'
        · rw [f, h3.2] at q4'
          cases q4'
          exact absurd (hpb l1 c1 o1 q1' q3') e1
        · rw [(h1 l2 f1 f2).1] at q2'; rw [(h1 l2 f1 f2).2] at q4'
          exact hk.inj l1 l2 x c1 c2 o1 o2 q1' q2' q3' q4'
    · have q' : updH (updH hp l .dead) l' ob l2 = some o2 := q
      rcases hcase l2 with e | e | ⟨e1, e2⟩
      · subst e
        rw [h2.1] at q'
        cases q'
        exact h2.2
      · subst e
        rw [h3.1] at q'
        cases q'
        suffices hg : ObjOk k' l2 (.buf c sz (fun i => if i < n then get i else List.replicate sz .top)) by
          rw [hob] at hg
          exact hg
        refine ⟨fun i hi => ?_, b, xs, ty, fz, h3.2, hh, hz, hs, fun i j v hi hv => ?_⟩
        · simp only
          split
          · exact g1 i (by assumption)
          · simp
        · simp only at hv
          split at hv
          · exact (hr i j v (by assumption) hv).step st fun b hb => (hk.own b hb).1
          · have : v = .top := List.eq_of_mem_replicate (List.mem_of_getElem? hv)
            subst this
            exact .top _
      · rw [(h1 l2 e1 e2).1] at q'
        exact ObjOk.step st hk q' (by show updH (updH hp l .dead) l' ob l2 = _; rw [(h1 l2 e1 e2).1]; exact q') (h1 l2 e1 e2).2 fun _ _ _ => rfl
    · intro cv hv
      cases hv with
      | msl _ _ _ _ h1c hnn h =>
        obtain ⟨p1, p2⟩ := h _ _ _ hl
        have hcv := p2 (by omega)
        simp only [hB, mslVal] at hcv
        refine .bsl _ _ _ _ h1c (.inr ⟨hck, by show (updH (updH hp l .dead) l' ob l').isSome = true; rw [h3.1]; rfl⟩) fun c' sz' get' hg => ?_
        have hg' : updH (updH hp l .dead) l' ob l' = some (.buf c' sz' get') := hg
        rw [h3.1, ← hob] at hg'
        cases hg'
        exact ⟨b, h3.2, by omega, by simpa using hcv⟩

end Go.Fly
end
section
/- Calls that get an array with a fixed block; arrays with a fixed block read out; slices.overlaps. -/
namespace Go.Fly
open Go

theorem CallT.buf {X : Cx} {hp : Heap} {ck : Nat} {f : FuncId} {rest : List V} {Kn : V → Heap → Nat → Prop} {l : Loc} {n sz : Nat} {get : Nat → List V} (d : Nat) (hl : hp l = some (.arr n sz get)) (hn : 0 < n) (hf : hp (ck, d) = none)
    (h : ∀ c, n ≤ c → CallT X (updH (updH hp l .dead) (ck, d) (.buf c sz (fun i => if i < n then get i else List.replicate sz .top))) ck f (.bsl (ck, d) 0 n :: rest) Kn) : CallT X hp ck f (.msl l 0 n :: rest) Kn := by
  intro w M B vs hst hho hargs
  obtain ⟨B', c, hc, st, hho', hR⟩ := rename_ok hho hl hn hf rfl
  have hown : ∀ b, (mkK w M B hp ck).owned b → (mkK w M B hp ck).M b := fun b hb => (hho.own b hb).1
  refine (h c hc w M B' vs (hst.trans st) hho' ⟨by simpa using hargs.1, fun j v hv => ?_⟩).mono fun e w' ⟨rv, r, hp', ck', M', B2, h1, h2, h3, h4, h5⟩ => ⟨rv, r, hp', ck', M', B2, h1, h2, st.trans h3, h4, h5⟩
  cases j with
  | zero =>
    simp only [List.getElem?_cons_zero, Option.some.injEq] at hv
    subst hv
    exact hR _ (hargs.2 0 _ rfl)
  | succ j => exact (hargs.2 (j + 1) v (by simpa using hv)).step st hown

end Go.Fly
end
section
/- Freezing an array that a variable holds. -/
namespace Go.Fly
open Go

/-- A slice in a variable that is nil, as an array of the call's own that is empty. -/
theorem Ents.nilC {k0 : K} {s : St} {l l2 : Loc} {cs : List V} {j : Nat} (sz : Nat) (get : Nat → List V) (hne : l2 ≠ l) (hc : s.hp l2 = some (.cells cs)) (hj : cs[j]? = some .nils) (hl : s.hp l = none) (hck : l.1 = s.ck) :
    Ents k0 s ⟨s.ck, s.tm, updH (updH s.hp l (.arr 0 sz get)) l2 (.cells (cs.set j (.msl l 0 0)))⟩ := by
  intro a w ⟨M, B, hst, hk, ht, hm⟩
  obtain ⟨q1, q2, q3⟩ := new_nil hk (l := l) hl hck sz get
  have ho : ∀ b, (mkK w M B s.hp s.ck).owned b → (mkK w M B s.hp s.ck).M b := fun b hb => (hk.own b hb).1
  have ho1 : ∀ b, (mkK w M (updB B l none) (updH s.hp l (.arr 0 sz get)) s.ck).owned b → (mkK w M (updB B l none) (updH s.hp l (.arr 0 sz get)) s.ck).M b := fun b hb => (q2.own b hb).1
  have hc1 : updH s.hp l (.arr 0 sz get) l2 = some (.cells cs) := by rw [updH_ne hne]; exact hc
  obtain ⟨b, c, xs, ty, fz, g1, g2, g3, g4, g5⟩ := hk.obj l2 _ hc
  have hB : updB B l none l2 = some (b, c) := by rw [updB_ne hne]; exact g1
  obtain ⟨p1, p2⟩ := write_ok q2 (l := l2) hc1 (o' := .cells (cs.set j (.msl l 0 0))) hB ⟨⟨cs, rfl⟩, rfl⟩ (w' := w) ⟨rfl, rfl, rfl, rfl⟩ (fun _ _ => rfl)
    (fun k' hw hB' st => ⟨b, c, xs, ty, fz, hB', by rw [hw]; exact g2, g3, by simpa using g4, fun i v hv => by
      rw [List.getElem?_set] at hv
      by_cases e : j = i
      · subst e
        have hlt := (List.getElem?_eq_some_iff.1 hj).1
        simp only [if_true, hlt, Option.some.injEq] at hv
        subst hv
        have := (g5 j _ hj).nils_inv
        rw [this]
        exact q3.step st ho1
      · simp only [e, if_false] at hv
        exact ((g5 i v hv).step q1 ho).step st ho1⟩)
  exact ⟨M, updB B l none, hst.trans (q1.trans p1), p2, (ht.step q1 ho).step p1 ho1, (hm.step q1).step p1⟩

theorem HpLe.drop {hp : Heap} {l : Loc} {a : AObj} (h : hp l = Option.none) : HpLe (updH hp l a) hp := by
  intro l' o' h'
  by_cases e : l' = l
  · subst e; rw [h] at h'; cases h'
  · exact ⟨o', by rw [updH_ne e]; exact h', ObjLe.refl _⟩
theorem objLe_arr {n sz : Nat} {get get' : Nat → List V} (h : ∀ j, j < n → get' j = get j) : ObjLe (.arr n sz get) (.arr n sz get') := ⟨rfl, rfl, h⟩
end Go.Fly
end
section
/- Calls that change what the caller owns: what may be let go behind them; a contract out of such a call; an array that shrinks. -/
namespace Go.Fly
open Go

theorem CallT.mono {X : Cx} {hp : Heap} {ck : Nat} {f : FuncId} {args : List V} {Kn Kn' : V → Heap → Nat → Prop} (h : CallT X hp ck f args Kn) (hK : ∀ r hp' ck', Kn r hp' ck' → Kn' r hp' ck') : CallT X hp ck f args Kn' := by
  intro w M B vs hst hho hargs
  exact (h w M B vs hst hho hargs).mono fun e w' ⟨rv, r, hp', ck', M', B', h1, h2⟩ => ⟨rv, r, hp', ck', M', B', hK _ _ _ h1, h2⟩

/-- An activation with the slots given, and nothing deferred. -/
theorem Rel.bare {k0 : K} {w : World} {M : Nat → Prop} {B : Loc → Option (Nat × Nat)} {hp : Heap} {ck : Nat} {tm : List V} {vs : Array Value} (hst : Step k0 (mkK w M B hp ck)) (hho : HeapOk (mkK w M B hp ck)) (hargs : ArgsR (mkK w M B hp ck) tm vs) :
    Rel k0 ⟨ck, tm, hp⟩ ⟨vs, []⟩ w := ⟨M, B, hst, hho, ⟨hargs.1.symm, hargs.2⟩, [], rfl, List.nodup_nil, by simp⟩

/-- What the result of a call stands for may be weakened. -/
theorem CallT.post {X : Cx} {hp : Heap} {ck : Nat} {f : FuncId} {args : List V} {Kn : V → Heap → Nat → Prop}
    (h : CallT X hp ck f args (fun r hp' ck' => ∃ r2 hp2 ck2, (∀ k0, Ents k0 ⟨ck', [r], hp'⟩ ⟨ck2, [r2], hp2⟩) ∧ Kn r2 hp2 ck2)) : CallT X hp ck f args Kn := by
  intro w M B vs hst hho hargs
  refine (h w M B vs hst hho hargs).mono fun e w' ⟨rv, r, hp', ck', M', B', ⟨r2, hp2, ck2, hE, hK⟩, h2, h3, h4, h5⟩ => ?_
  obtain ⟨M2, B2, q1, q2, q3, _⟩ := hE (mkK w M B hp ck) ⟨#[rv], []⟩ w' (Rel.bare h3 h4 ⟨rfl, fun j v hv => by
    cases j with
    | zero =>
      simp only [List.getElem?_cons_zero, Option.some.injEq] at hv
      subst hv
      exact h5
    | succ j => simp at hv⟩)
  exact ⟨rv, r2, hp2, ck2, M2, B2, hK, h2, q1, q2, q3.2 0 r2 rfl⟩

/-- What is known before a call may be weakened. -/
theorem CallT.pre {X : Cx} {hp hp2 : Heap} {ck ck2 : Nat} {f : FuncId} {args args2 : List V} {Kn : V → Heap → Nat → Prop} (hE : ∀ k0, Ents k0 ⟨ck, args, hp⟩ ⟨ck2, args2, hp2⟩)
    (h : CallT X hp2 ck2 f args2 Kn) : CallT X hp ck f args Kn := by
  intro w M B vs hst hho hargs
  have own : ∀ b, (mkK w M B hp ck).owned b → (mkK w M B hp ck).M b := fun b hb => (hho.own b hb).1
  obtain ⟨M2, B2, q1, q2, q3, _⟩ := hE (mkK w M B hp ck) ⟨vs, []⟩ w (Rel.bare (Step.refl _) hho hargs)
  refine (h w M2 B2 vs (hst.trans q1) q2 ⟨q3.1.symm, q3.2⟩).mono fun e w' ⟨rv, r, hp', ck', M', B', h1, h2, h3, h4, h5⟩ => ⟨rv, r, hp', ck', M', B', h1, h2, q1.trans h3, h4, h5⟩

/-- What is not needed any more is let go. -/
theorem CallT.less {X : Cx} {hp : Heap} {ck : Nat} {f : FuncId} {args : List V} {Kn : V → Heap → Nat → Prop}
    (h : CallT X hp ck f args (fun r hp' ck' => ∃ hp2, HpLe hp' hp2 ∧ Kn r hp2 (ck' + 1))) : CallT X hp ck f args Kn :=
  CallT.post (h.mono fun r hp' ck' ⟨hp2, h1, h2⟩ => ⟨r, hp2, ck' + 1, fun k0 => Ents.go ⟨.inr rfl, trivial⟩ h1, h2⟩)

/-- A contract of a function of which all that it makes is frozen. -/
theorem Holds.of_callT {P : Program} {G : Nat → V} {f : FuncId} {C : Contract} (hG : ∀ g, Pu (G g) ∨ G g = .top) (hobj : ∀ rl args, (C rl args).obj = none)
    (h : ∀ (k0 : K) (rl : Loc) (args : List V), (⟨P, fun _ => none, G, none, k0⟩ : Cx).Ok → (∀ a ∈ args, Pu a) → (C rl args).pre →
      CallT ⟨P, fun _ => none, G, none, k0⟩ (fun _ => none) 1 f args (fun r hp' _ => VEnt (frz 5 hp' r) (C rl args).val)) : Holds P G f C := by
  intro rl args w0 M0 vs hM0 hG0 hpu hargs hpre
  have hX : (⟨P, fun _ => none, G, none, bareK w0 M0⟩ : Cx).Ok := ⟨fun _ _ q => (by cases q), hG, hG0, fun b ⟨l, o, c, h, _⟩ => by cases h⟩
  have hst0 : Step (bareK w0 M0) (mkK w0 M0 (fun _ => none) (fun _ => none) 1) := ⟨rfl, rfl, rfl, Nat.le_refl _, fun _ _ _ => rfl, fun _ h => .inl h, fun _ _ h => h, fun _ _ _ h => h, fun l h => h.elim, fun l h => h.elim⟩
  have hho0 : HeapOk (mkK w0 M0 (fun _ => none) (fun _ => none) 1) := ⟨hM0, (fun b ⟨l, o, c, h, _⟩ => by cases h), (fun l o h => by cases h), (fun l l' b c c' o o' h => by cases h), (fun l o h => by cases h)⟩
  refine (h (bareK w0 M0) rl args hX hpu hpre w0 M0 (fun _ => none) vs hst0 hho0 ⟨hargs.1, fun j v hv => (hargs.2 j v hv).step hst0 (fun b ⟨l, o, c, h, _⟩ => by cases h)⟩).mono fun e w' ⟨rv, r, hp', ck', M', B', h1, h2, h3, h4, h5⟩ => ?_
  have hown0 : ∀ b, (mkK w' M' B' hp' ck').owned b → w0.heap.size ≤ b := fun b hb => by
    rcases h3.own b hb with ⟨l, o, c, q, _⟩ | q
    · cases q
    · exact q
  have hM0M : ∀ b, M0 b → M' b := fun b hb => h3.M2 b (hM0 b hb) (fun ⟨l, o, c, q, _⟩ => by cases q) hb
  have hsz0 : w0.heap.size ≤ w'.heap.size := h3.size
  refine ⟨rv, none, h2, ?_, ?_, ?_⟩
  · rw [hobj]
    refine ⟨h3.os, h3.tape, h3.output, hsz0, fun b hb _ => h3.keep b hb (fun ⟨l, o, c, q, _⟩ => by cases q), fun b ⟨l, o, c, q, _⟩ => ?_, fun b hb hm => ?_, fun b hb _ hm => .inl hm, fun l q => q.elim, fun l q => q.elim⟩
    · simp [outK, hpAt] at q
    · rcases hm with hm | ⟨hm, _⟩
      · exact hm
      · cases hm
  · rw [hobj]
    refine ⟨fun b hb => ?_, fun b ⟨l, o, c, q, _⟩ => ?_, fun l o q => ?_, fun l l' b c c' o o' q => ?_, fun l o q => ?_⟩
    · rcases hb with hb | ⟨hb, _⟩
      · exact Nat.lt_of_lt_of_le (hM0 b hb) hsz0
      · cases hb
    · simp [outK, hpAt] at q
    · simp [outK, hpAt] at q
    · simp [outK, hpAt] at q
    · simp [outK, hpAt] at q
  · rw [hobj]
    refine h1 _ _ (frz_R (k := mkK w' M' B' hp' ck') (k' := outK w' M0 rl none none) h4 (fun b hb hc => ⟨hb, rfl, fun q => ?_⟩) 5 h5).2
    rcases q with q | ⟨q, _⟩
    · rcases hc with hc | hc
      · exact hc (hM0M b q)
      · have h1 := hown0 b hc
        have h2 := hM0 b q
        omega
    · cases q

/-- A beginning of an array of the call's own, under a new name; the old name is let go. -/
theorem shrink_ok {w : World} {M : Nat → Prop} {B : Loc → Option (Nat × Nat)} {hp : Heap} {ck : Nat} (hk : HeapOk (mkK w M B hp ck)) {l l' : Loc} {n m sz : Nat} {get : Nat → List V} (hl : hp l = some (.arr n sz get)) (hmn : m ≤ n) (hl' : hp l' = none) (hck : l'.1 = ck) :
    ∃ B', B' l' = B l ∧ Step (mkK w M B hp ck) (mkK w M B' (updH (updH hp l .dead) l' (.arr m sz get)) ck) ∧
      HeapOk (mkK w M B' (updH (updH hp l .dead) l' (.arr m sz get)) ck) ∧
      ∀ cv, R (mkK w M B hp ck) (.psl l n 0 m) cv → R (mkK w M B' (updH (updH hp l .dead) l' (.arr m sz get)) ck) (.msl l' 0 m) cv := by
  obtain ⟨g1, g2, g3⟩ := hk.obj l _ hl
  have g3' : match B l with
    | none => n = 0
    | some (b, c) => n ≤ c ∧ ∃ xs ty fz, w.heap[b]? = some (.cells xs ty fz) ∧ (∀ o : Nat, ¬ (fz.1 ≤ o ∧ o < fz.2)) ∧ xs.size = c * sz ∧
        ∀ (i j : Nat) (v : V), i < n → (get i)[j]? = some v → R (mkK w M B hp ck) v (xs.getD (i * sz + j) undef) := g3
  have hne : l ≠ l' := fun e => by rw [e, hl'] at hl; cases hl
  have hnm : ¬ (mkK w M B hp ck).nm l' := by
    intro h; rcases h with h | ⟨_, h⟩
    · omega
    · simp [hl'] at h
  generalize hx : B l = x at g3'
  refine ⟨updB (updB B l none) l' x, updB_same .., ?_⟩
  generalize hob : AObj.arr m sz get = ob
  have h1 : ∀ y : Loc, y ≠ l → y ≠ l' → updH (updH hp l .dead) l' ob y = hp y ∧ updB (updB B l none) l' x y = B y := fun y e1 e2 => ⟨by rw [updH_ne e2, updH_ne e1], by rw [updB_ne e2, updB_ne e1]⟩
  have h2 : updH (updH hp l .dead) l' ob l = some .dead ∧ updB (updB B l none) l' x l = none := ⟨by rw [updH_ne hne, updH_same], by rw [updB_ne hne, updB_same]⟩
  have h3 : updH (updH hp l .dead) l' ob l' = some ob ∧ updB (updB B l none) l' x l' = x := ⟨updH_same .., updB_same ..⟩
  let k' : K := mkK w M (updB (updB B l none) l' x) (updH (updH hp l .dead) l' ob) ck
  have hcase : ∀ y : Loc, y = l ∨ y = l' ∨ (y ≠ l ∧ y ≠ l') := fun y => by
    by_cases e1 : y = l
    · exact .inl e1
    · by_cases e2 : y = l'
      · exact .inr (.inl e2)
      · exact .inr (.inr ⟨e1, e2⟩)
  have hown : ∀ b, k'.owned b → (mkK w M B hp ck).owned b := by
    rintro b ⟨l2, o2, c2, q1, q2⟩
    rcases hcase l2 with e | e | ⟨e1, e2⟩
    · subst e
      have : updB (updB B l2 none) l' x l2 = some (b, c2) := q2
      rw [h2.2] at this; cases this
    · subst e
      have : updB (updB B l none) l2 x l2 = some (b, c2) := q2
      rw [h3.2] at this
      exact ⟨l, _, c2, hl, hx.trans this⟩
    · have q1' : updH (updH hp l .dead) l' ob l2 = some o2 := q1
      have q2' : updB (updB B l none) l' x l2 = some (b, c2) := q2
      rw [(h1 l2 e1 e2).1] at q1'
      rw [(h1 l2 e1 e2).2] at q2'
      exact ⟨l2, o2, c2, q1', q2'⟩
  have hnm' : ∀ y, (mkK w M B hp ck).nm y → k'.nm y := fun y h => nm_upd (nm_upd h)
  have st : Step (mkK w M B hp ck) k' := by
    refine ⟨rfl, rfl, rfl, Nat.le_refl _, fun _ _ _ => rfl, fun b hb => .inl (hown b hb), fun b _ hm => hm, fun b _ _ hm => hm, hnm', fun l2 hl2 o2 ho2 => ?_⟩
    have ho2' : updH (updH hp l .dead) l' ob l2 = some o2 := ho2
    rcases hcase l2 with e | e | ⟨e1, e2⟩
    · subst e
      rw [h2.1] at ho2'
      cases ho2'
      trivial
    · subst e
      exact absurd hl2 hnm
    · rw [(h1 l2 e1 e2).1] at ho2'
      have q := (Step.refl (mkK w M B hp ck)).names l2 hl2 o2 ho2'
      cases o2 with
      | dead => trivial
      | raw r => trivial
      | cells cs => exact ⟨q.1, (h1 l2 e1 e2).2⟩
      | buf _ _ _ => exact ⟨q.1, (h1 l2 e1 e2).2⟩
      | arr n sz get => obtain ⟨n0, g0, q1, q2, q3⟩ := q; exact ⟨n0, g0, q1, q2, fun _ => (h1 l2 e1 e2).2⟩
  have hpb : ∀ b c y c2 o2, x = some (b, c) → hp y = some o2 → B y = some (b, c2) → y = l := fun b c y c2 o2 q0 q1 q2 => hk.inj y l b c2 c o2 _ q1 hl q2 (hx.trans q0)
  refine ⟨st, ⟨fun b hb => hk.lt b hb, fun b hb => hk.own b (hown b hb), fun l2 o2 q => ?_, fun l1 l2 b c1 c2 o1 o2 q1 q2 q3 q4 => ?_, fun l2 o2 q => ?_⟩, ?_⟩
  · have q' : updH (updH hp l .dead) l' ob l2 = some o2 := q
    rcases hcase l2 with e | e | ⟨e1, e2⟩
    · subst e; exact hnm' _ (hk.nm l2 _ hl)
    · subst e; exact .inr ⟨hck, by show (updH (updH hp l .dead) l2 ob l2).isSome = true; rw [h3.1]; rfl⟩
    · rw [(h1 l2 e1 e2).1] at q'
      exact hnm' _ (hk.nm l2 o2 q')
  · have q1' : updH (updH hp l .dead) l' ob l1 = some o1 := q1
    have q2' : updH (updH hp l .dead) l' ob l2 = some o2 := q2
    have q3' : updB (updB B l none) l' x l1 = some (b, c1) := q3
    have q4' : updB (updB B l none) l' x l2 = some (b, c2) := q4
    rcases hcase l1 with e | e | ⟨e1, e2⟩
    · rw [e, h2.2] at q3'; cases q3'
    · rcases hcase l2 with f | f | ⟨f1, f2⟩
      · rw [f, h2.2] at q4'; cases q4'
      · rw [e, f]
      · rw [e, h3.2] at q3'
        rw [(h1 l2 f1 f2).1] at q2'; rw [(h1 l2 f1 f2).2] at q4'
        exact absurd (hpb b c1 l2 c2 o2 q3' q2' q4') f1
    · rw [(h1 l1 e1 e2).1] at q1'; rw [(h1 l1 e1 e2).2] at q3'
      rcases hcase l2 with f | f | ⟨f1, f2⟩
      · rw [f, h2.2] at q4'; cases q4'
      · rw [f, h3.2] at q4'
        exact absurd (hpb b c2 l1 c1 o1 q4' q1' q3') e1
      · rw [(h1 l2 f1 f2).1] at q2'; rw [(h1 l2 f1 f2).2] at q4'
        exact hk.inj l1 l2 b c1 c2 o1 o2 q1' q2' q3' q4'
  · have q' : updH (updH hp l .dead) l' ob l2 = some o2 := q
    rcases hcase l2 with e | e | ⟨e1, e2⟩
    · subst e
      rw [h2.1] at q'
      cases q'
      exact h2.2
    · subst e
      rw [h3.1] at q'
      cases q'
      suffices hg : ObjOk k' l2 (.arr m sz get) by
        rw [hob] at hg
        exact hg
      refine ⟨fun i hi => g1 i (by omega), trivial, ?_⟩
      have e3 : k'.B l2 = x := h3.2
      rw [e3]
      cases x with
      | none =>
        have : n = 0 := g3'
        show m = 0
        omega
      | some bc =>
        obtain ⟨b, c⟩ := bc
        obtain ⟨p1, xs, ty, fz, p2, p3, p4, p5⟩ := g3'
        exact ⟨by omega, xs, ty, fz, p2, p3, p4, fun i j v hi hv => (p5 i j v (by omega) hv).step st fun b hb => (hk.own b hb).1⟩
    · rw [(h1 l2 e1 e2).1] at q'
      exact ObjOk.step st hk q' (by show updH (updH hp l .dead) l' ob l2 = _; rw [(h1 l2 e1 e2).1]; exact q') (h1 l2 e1 e2).2 fun _ _ _ => rfl
  · intro cv hv
    cases hv with
    | psl _ _ _ _ _ h1c hnn h =>
      obtain ⟨p0, p1, p2⟩ := h _ _ _ hl
      have hcv := p2 rfl
      refine .msl _ _ _ _ h1c (.inr ⟨hck, by show (updH (updH hp l .dead) l' ob l').isSome = true; rw [h3.1]; rfl⟩) fun n' sz' get' hg => ?_
      have hg' : updH (updH hp l .dead) l' ob l' = some (.arr n' sz' get') := hg
      rw [h3.1, ← hob] at hg'
      cases hg'
      refine ⟨by omega, fun _ => ?_⟩
      show cv = mslVal (updB (updB B l none) l' x l') 0 sz m
      rw [h3.2, ← hx]
      exact hcv

/-- The same where a variable and a slot hold the beginning. -/
theorem Ents.shrink {k0 : K} {s : St} {l l' l2 : Loc} {n m sz : Nat} {get : Nat → List V} {cs : List V} {j d : Nat} (hne : l2 ≠ l) (hne' : l2 ≠ l') (hl : s.hp l = some (.arr n sz get)) (hmn : m ≤ n) (hl' : s.hp l' = none) (hck : l'.1 = s.ck) (hc : s.hp l2 = some (.cells cs)) (hj : cs[j]? = some (.psl l n 0 m)) (hd : s.tm[d]? = some (.psl l n 0 m)) :
    Ents k0 s ⟨s.ck, s.tm.set d (.msl l' 0 m), updH (updH (updH s.hp l .dead) l' (.arr m sz get)) l2 (.cells (cs.set j (.msl l' 0 m)))⟩ := by
  intro a w ⟨M, B, hst, hk, ht, hm⟩
  obtain ⟨B', q0, q1, q2, q3⟩ := shrink_ok hk hl hmn hl' hck
  have ho : ∀ b, (mkK w M B s.hp s.ck).owned b → (mkK w M B s.hp s.ck).M b := fun b hb => (hk.own b hb).1
  have ho1 : ∀ b, (mkK w M B' (updH (updH s.hp l .dead) l' (.arr m sz get)) s.ck).owned b → (mkK w M B' (updH (updH s.hp l .dead) l' (.arr m sz get)) s.ck).M b := fun b hb => (q2.own b hb).1
  have hc1 : updH (updH s.hp l .dead) l' (.arr m sz get) l2 = some (.cells cs) := by rw [updH_ne hne', updH_ne hne]; exact hc
  obtain ⟨b, c, xs, ty, fz, g1, g2, g3, g4, g5⟩ := hk.obj l2 _ hc
  have hB : B' l2 = some (b, c) := by
    have q := q1.names l2 (hk.nm l2 _ hc) (.cells cs) hc1
    exact q.2.trans g1
  obtain ⟨p1, p2⟩ := write_ok q2 (l := l2) hc1 (o' := .cells (cs.set j (.msl l' 0 m))) hB ⟨⟨cs, rfl⟩, rfl⟩ (w' := w) ⟨rfl, rfl, rfl, rfl⟩ (fun _ _ => rfl)
    (fun k' hw hB' st => ⟨b, c, xs, ty, fz, hB', by rw [hw]; exact g2, g3, by simpa using g4, fun i v hv => by
      rw [List.getElem?_set] at hv
      by_cases e : j = i
      · subst e
        have hlt := (List.getElem?_eq_some_iff.1 hj).1
        simp only [if_true, hlt, Option.some.injEq] at hv
        subst hv
        exact (q3 _ (g5 j _ hj)).step st ho1
      · simp only [e, if_false] at hv
        exact ((g5 i v hv).step q1 ho).step st ho1⟩)
  refine ⟨M, B', hst.trans (q1.trans p1), p2, ⟨by simpa using ht.1, fun t v hv => ?_⟩, (hm.step q1).step p1⟩
  rw [List.getElem?_set] at hv
  by_cases e : d = t
  · subst e
    have hlt := (List.getElem?_eq_some_iff.1 hd).1
    simp only [if_true, hlt, Option.some.injEq] at hv
    subst hv
    exact (q3 _ (ht.2 d _ hd)).step p1 ho1
  · simp only [e, if_false] at hv
    exact ((ht.2 t v hv).step q1 ho).step p1 ho1
end Go.Fly
end
section
/- The office: its data as abstract values. -/
namespace Go.Fly.Off
open Go
def strOf : V → Str | .str s => s | _ => []
def intOf : V → Int | .int _ n => n | _ => 0
def boolOf : V → Bool | .bool b => b | _ => false
/-- Lists of strings, of numbers, of structures, as slices. -/
def encStrs (l : List Str) : V := .sl l.length 1 fun i => [.str (el l i)]
def encInts (l : List Int) : V := .sl l.length 1 fun i => [.int .i64 (el l i)]
def decRows {α : Type} (f : List V → α) : V → List α
  | .sl n _ g => (List.range n).map fun i => f (g i)
  | _ => []
def decStrs : V → List Str := decRows fun r => strOf (r.getD 0 .top)
def decInts : V → List Int := decRows fun r => intOf (r.getD 0 .top)
theorem range_el {α : Type} [Inhabited α] (l : List α) : (List.range l.length).map (fun i => el l i) = l := by
  apply List.ext_getElem
  · simp
  · intro i h1 h2
    simp [h2, el]
theorem dec_strs (l : List Str) : decStrs (encStrs l) = l := range_el l
theorem dec_ints (l : List Int) : decInts (encInts l) = l := range_el l
def encRows {α : Type} [Inhabited α] (sz : Nat) (f : α → List V) (l : List α) : V := .sl l.length sz fun i => f (el l i)
theorem dec_rows {α : Type} [Inhabited α] (sz : Nat) (f : α → List V) (g : List V → α) (h : ∀ x, g (f x) = x) (l : List α) : decRows g (encRows sz f l) = l := by
  show (List.range l.length).map (fun i => g (f (el l i))) = l
  simp only [h]
  exact range_el l
def encEv (e : Ev) : List V := [.int .i64 e.num, .str e.kind, encStrs e.names, encInts e.vals, .str e.text]
def decEv : List V → Ev
  | [a, b, c, d, e] => ⟨intOf a, strOf b, decStrs c, decInts d, strOf e⟩
  | _ => default
theorem dec_ev (e : Ev) : decEv (encEv e) = e := by
  show Ev.mk e.num e.kind (decStrs (encStrs e.names)) (decInts (encInts e.vals)) e.text = e
  rw [dec_strs, dec_ints]
def encTy (t : Ty) : List V := [.str t.name, .int .i64 t.energy, .int .i64 t.factor]
def encHo (t : Ho) : List V := [.str t.name, .int .i64 t.share]
def encFl (t : Fl) : List V := [.str t.name, .str t.type, .int .i64 t.day, .int .i64 t.minute, .int .i64 t.heard]
def encMp (t : Mp) : List V := [.str t.name, .int .i64 t.day, encInts t.levels]
def encOf (t : Of) : List V := [.str t.name, .str t.house, .int .i64 t.amount, .bool t.paid]
def encCo (t : Co) : List V := [.str t.name, .str t.house, .int .i64 t.day, .int .i64 t.minute, .str t.flight, .int .i64 t.answered]
def decTy : List V → Ty | [a, b, c] => ⟨strOf a, intOf b, intOf c⟩ | _ => default
def decHo : List V → Ho | [a, b] => ⟨strOf a, intOf b⟩ | _ => default
def decFl : List V → Fl | [a, b, c, d, e] => ⟨strOf a, strOf b, intOf c, intOf d, intOf e⟩ | _ => default
def decMp : List V → Mp | [a, b, c] => ⟨strOf a, intOf b, decInts c⟩ | _ => default
def decOf : List V → Of | [a, b, c, d] => ⟨strOf a, strOf b, intOf c, boolOf d⟩ | _ => default
def decCo : List V → Co | [a, b, c, d, e, f] => ⟨strOf a, strOf b, intOf c, intOf d, strOf e, intOf f⟩ | _ => default
theorem dec_ty (t : Ty) : decTy (encTy t) = t := rfl
theorem dec_ho (t : Ho) : decHo (encHo t) = t := rfl
theorem dec_fl (t : Fl) : decFl (encFl t) = t := rfl
theorem dec_mp (t : Mp) : decMp (encMp t) = t := by show Mp.mk t.name t.day (decInts (encInts t.levels)) = t; rw [dec_ints]
theorem dec_of (t : Of) : decOf (encOf t) = t := rfl
theorem dec_co (t : Co) : decCo (encCo t) = t := rfl
/-- The register's cells, in the program's order. -/
def encReg (r : Reg) : List V :=
  [.int .i64 r.day, encRows 3 encTy r.types, encRows 2 encHo r.houses, encRows 5 encFl r.flights, encRows 3 encMp r.maps, encRows 4 encOf r.offers, encRows 6 encCo r.complaints, .int .i64 r.fund]
def decReg : List V → Reg
  | [a, b, c, d, e, f, g, h] => ⟨intOf a, decRows decTy b, decRows decHo c, decRows decFl d, decRows decMp e, decRows decOf f, decRows decCo g, intOf h⟩
  | _ => {}
theorem dec_reg (r : Reg) : decReg (encReg r) = r := by
  show Reg.mk r.day (decRows decTy (encRows 3 encTy r.types)) (decRows decHo (encRows 2 encHo r.houses)) (decRows decFl (encRows 5 encFl r.flights)) (decRows decMp (encRows 3 encMp r.maps)) (decRows decOf (encRows 4 encOf r.offers)) (decRows decCo (encRows 6 encCo r.complaints)) r.fund = r
  simp only [dec_rows _ _ _ dec_ty, dec_rows _ _ _ dec_ho, dec_rows _ _ _ dec_fl, dec_rows _ _ _ dec_mp, dec_rows _ _ _ dec_of, dec_rows _ _ _ dec_co]

/-! ### What the evaluation is told -/
theorem pu_encStrs (l : List Str) : Pu (encStrs l) ↔ True := iff_true_intro (pu_sl.2 fun i _ v hv => by rw [List.mem_singleton.1 hv]; exact .str _)
theorem pu_encInts (l : List Int) : Pu (encInts l) ↔ True := iff_true_intro (pu_sl.2 fun i _ v hv => by rw [List.mem_singleton.1 hv]; exact .int _ _)
theorem frz_encStrs {n : Nat} {hp : Heap} (l : List Str) : frz (n + 1) hp (encStrs l) = encStrs l := frz_sl
theorem frz_encInts {n : Nat} {hp : Heap} (l : List Int) : frz (n + 1) hp (encInts l) = encInts l := frz_sl
theorem pu_rows {α : Type} [Inhabited α] {sz : Nat} {f : α → List V} (h : ∀ x, ∀ v ∈ f x, Pu v) (l : List α) : Pu (encRows sz f l) := pu_sl.2 fun i _ v hv => h _ v hv
theorem frz_rows {n : Nat} {hp : Heap} {α : Type} [Inhabited α] {sz : Nat} {f : α → List V} (l : List α) : frz (n + 1) hp (encRows sz f l) = encRows sz f l := frz_sl
/-- Rows that are all pure, each in one cell. -/
def Ones (r : List V) : Prop := ∀ v ∈ r, Pu v ∧ oneC v = true
theorem ones_cons {v : V} {r : List V} (h : Pu v) (h2 : oneC v = true) (hr : Ones r) : Ones (v :: r) := fun u hu => by
  rcases List.mem_cons.1 hu with rfl | hu
  · exact ⟨h, h2⟩
  · exact hr u hu
theorem ones_nil : Ones [] := fun v hv => by cases hv
theorem ones_ev (e : Ev) : Ones (encEv e) := ones_cons (.int _ _) rfl (ones_cons (.str _) rfl (ones_cons ((pu_encStrs _).2 trivial) rfl (ones_cons ((pu_encInts _).2 trivial) rfl (ones_cons (.str _) rfl ones_nil))))
theorem ones_ty (t : Ty) : Ones (encTy t) := ones_cons (.str _) rfl (ones_cons (.int _ _) rfl (ones_cons (.int _ _) rfl ones_nil))
theorem ones_ho (t : Ho) : Ones (encHo t) := ones_cons (.str _) rfl (ones_cons (.int _ _) rfl ones_nil)
theorem ones_fl (t : Fl) : Ones (encFl t) := ones_cons (.str _) rfl (ones_cons (.str _) rfl (ones_cons (.int _ _) rfl (ones_cons (.int _ _) rfl (ones_cons (.int _ _) rfl ones_nil))))
theorem ones_mp (t : Mp) : Ones (encMp t) := ones_cons (.str _) rfl (ones_cons (.int _ _) rfl (ones_cons ((pu_encInts _).2 trivial) rfl ones_nil))
theorem ones_of (t : Of) : Ones (encOf t) := ones_cons (.str _) rfl (ones_cons (.str _) rfl (ones_cons (.int _ _) rfl (ones_cons (.bool _) rfl ones_nil)))
theorem ones_co (t : Co) : Ones (encCo t) := ones_cons (.str _) rfl (ones_cons (.str _) rfl (ones_cons (.int _ _) rfl (ones_cons (.int _ _) rfl (ones_cons (.str _) rfl (ones_cons (.int _ _) rfl ones_nil)))))
theorem Ones.pu {r : List V} (h : Ones r) : ∀ v ∈ r, Pu v := fun v hv => (h v hv).1
theorem pu_evs (l : List Ev) : Pu (encRows 5 encEv l) ↔ True := iff_true_intro (pu_rows (fun x => (ones_ev x).pu) l)
theorem pu_tys (l : List Ty) : Pu (encRows 3 encTy l) ↔ True := iff_true_intro (pu_rows (fun x => (ones_ty x).pu) l)
theorem pu_hos (l : List Ho) : Pu (encRows 2 encHo l) ↔ True := iff_true_intro (pu_rows (fun x => (ones_ho x).pu) l)
theorem pu_fls (l : List Fl) : Pu (encRows 5 encFl l) ↔ True := iff_true_intro (pu_rows (fun x => (ones_fl x).pu) l)
theorem pu_mps (l : List Mp) : Pu (encRows 3 encMp l) ↔ True := iff_true_intro (pu_rows (fun x => (ones_mp x).pu) l)
theorem pu_ofs (l : List Of) : Pu (encRows 4 encOf l) ↔ True := iff_true_intro (pu_rows (fun x => (ones_of x).pu) l)
theorem pu_cos (l : List Co) : Pu (encRows 6 encCo l) ↔ True := iff_true_intro (pu_rows (fun x => (ones_co x).pu) l)
theorem reg_pu (r : Reg) : ∀ v ∈ encReg r, Pu v := fun v hv => by
  simp only [encReg, List.mem_cons, List.not_mem_nil, or_false] at hv
  rcases hv with rfl | rfl | rfl | rfl | rfl | rfl | rfl | rfl
  · exact .int _ _
  · exact (pu_tys _).2 trivial
  · exact (pu_hos _).2 trivial
  · exact (pu_fls _).2 trivial
  · exact (pu_mps _).2 trivial
  · exact (pu_ofs _).2 trivial
  · exact (pu_cos _).2 trivial
  · exact .int _ _
theorem pu_reg (r : Reg) : Pu (.cptr (encReg r)) ↔ True := iff_true_intro (pu_cptr.2 (reg_pu r))
theorem pu_ev (e : Ev) : Pu (.agg (encEv e)) ↔ True := iff_true_intro (pu_agg.2 (ones_ev e).pu)
theorem pu_evc (e : Ev) : Pu (.cptr (encEv e)) ↔ True := iff_true_intro (pu_cptr.2 (ones_ev e).pu)
theorem frz_ev {n : Nat} {hp : Heap} (e : Ev) : frz (n + 1) hp (.agg (encEv e)) = .agg (encEv e) := frz_pu ((pu_ev e).2 trivial)
/-- A history. -/
def encHist (h : Hist) : List V := encRows 5 encEv h.events :: encRows 5 encEv h.counted :: encReg h.now
def decHist : List V → Hist
  | a :: b :: r => ⟨decRows decEv a, decRows decEv b, decReg r⟩
  | _ => {}
theorem dec_evs (l : List Ev) : decRows decEv (encRows 5 encEv l) = l := dec_rows 5 encEv decEv dec_ev l
theorem dec_tys (l : List Ty) : decRows decTy (encRows 3 encTy l) = l := dec_rows 3 encTy decTy dec_ty l
theorem dec_hos (l : List Ho) : decRows decHo (encRows 2 encHo l) = l := dec_rows 2 encHo decHo dec_ho l
theorem dec_fls (l : List Fl) : decRows decFl (encRows 5 encFl l) = l := dec_rows 5 encFl decFl dec_fl l
theorem dec_mps (l : List Mp) : decRows decMp (encRows 3 encMp l) = l := dec_rows 3 encMp decMp dec_mp l
theorem dec_ofs (l : List Of) : decRows decOf (encRows 4 encOf l) = l := dec_rows 4 encOf decOf dec_of l
theorem dec_cos (l : List Co) : decRows decCo (encRows 6 encCo l) = l := dec_rows 6 encCo decCo dec_co l
theorem dec_hist (h : Hist) : decHist (encHist h) = h := by
  show Hist.mk (decRows decEv (encRows 5 encEv h.events)) (decRows decEv (encRows 5 encEv h.counted)) (decReg (encReg h.now)) = h
  rw [dec_evs, dec_evs, dec_reg]
theorem hist_pu (h : Hist) : ∀ v ∈ encHist h, Pu v := fun v hv => by
  simp only [encHist, List.mem_cons] at hv
  rcases hv with rfl | rfl | hv
  · exact (pu_evs _).2 trivial
  · exact (pu_evs _).2 trivial
  · exact reg_pu _ v hv
theorem pu_hist (h : Hist) : Pu (.cptr (encHist h)) ↔ True := iff_true_intro (pu_cptr.2 (hist_pu h))
/-- What stands behind an address, or in a structure. -/
def cellsOf : V → List V
  | .cptr cs => cs
  | .agg cs => cs
  | _ => []
theorem cellsOf_cptr {cs : List V} : cellsOf (.cptr cs) = cs := rfl
theorem cellsOf_agg {cs : List V} : cellsOf (.agg cs) = cs := rfl
theorem strOf_str {s : Str} : strOf (.str s) = s := rfl
theorem intOf_int {k : IntKind} {n : Int} : intOf (.int k n) = n := rfl
attribute [go_sem] pu_encStrs pu_encInts frz_encStrs frz_encInts frz_rows pu_evs pu_tys pu_hos pu_fls pu_mps pu_ofs pu_cos pu_reg pu_ev pu_evc frz_ev dec_evs dec_tys dec_hos dec_fls dec_mps dec_ofs dec_cos dec_hist dec_reg dec_ev dec_strs dec_ints dec_ty dec_ho dec_fl dec_mp dec_of dec_co pu_hist cellsOf_cptr cellsOf_agg strOf_str intOf_int
theorem el_map {α β : Type} [Inhabited α] [Inhabited β] (f : α → β) (l : List α) {i : Nat} (h : i < l.length) : el (l.map f) i = f (el l i) := by
  simp [el, h]
theorem el_get {α : Type} [Inhabited α] (l : List α) {i : Nat} (h : i < l.length) : el l i = l[i] := by simp [el, h]
theorem vent_strs {n : Nat} {g : Nat → List V} {l : List Str} (hn : n = l.length) (h : ∀ i, i < l.length → g i = [.str (el l i)]) : VEnt (.sl n 1 g) (encStrs l) := by
  subst hn
  exact VEnt.sl h
theorem vent_ints {n : Nat} {g : Nat → List V} {l : List Int} (hn : n = l.length) (h : ∀ i, i < l.length → g i = [.int .i64 (el l i)]) : VEnt (.sl n 1 g) (encInts l) := by
  subst hn
  exact VEnt.sl h
end Go.Fly.Off
end
section
/- The office: contracts of its small functions. -/
namespace Go.Fly.Off
open Go
theorem oneC_ints (l : List Int) : oneC (encInts l) = true := rfl
theorem oneC_strs (l : List Str) : oneC (encStrs l) = true := rfl
theorem oneC_rows {α : Type} [Inhabited α] {sz : Nat} {f : α → List V} (l : List α) : oneC (encRows sz f l) = true := rfl
theorem cellsV_ints (l : List Int) : cellsV (encInts l) = some [encInts l] := rfl
theorem cellsV_strs (l : List Str) : cellsV (encStrs l) = some [encStrs l] := rfl
theorem cellsV_rows {α : Type} [Inhabited α] {sz : Nat} {f : α → List V} (l : List α) : cellsV (encRows sz f l) = some [encRows sz f l] := rfl
theorem isMsl_ints (l : List Int) : isMsl (encInts l) = false := rfl
theorem isMsl_strs (l : List Str) : isMsl (encStrs l) = false := rfl
theorem isMsl_rows {α : Type} [Inhabited α] {sz : Nat} {f : α → List V} (l : List α) : isMsl (encRows sz f l) = false := rfl
def arg (args : List V) (i : Nat) : V := args.getD i .top
theorem arg_0 {a : V} {l : List V} : arg (a :: l) 0 = a := rfl
theorem arg_1 {a b : V} {l : List V} : arg (a :: b :: l) 1 = b := rfl
theorem arg_2 {a b c : V} {l : List V} : arg (a :: b :: c :: l) 2 = c := rfl
theorem arg_3 {a b c d : V} {l : List V} : arg (a :: b :: c :: d :: l) 3 = d := rfl
theorem eta_ev (e : Ev) : Ev.mk e.num e.kind e.names e.vals e.text = e := rfl
theorem eta_ty (e : Ty) : Ty.mk e.name e.energy e.factor = e := rfl
theorem eta_ho (e : Ho) : Ho.mk e.name e.share = e := rfl
theorem eta_fl (e : Fl) : Fl.mk e.name e.type e.day e.minute e.heard = e := rfl
theorem eta_mp (e : Mp) : Mp.mk e.name e.day e.levels = e := rfl
theorem eta_of (e : Of) : Of.mk e.name e.house e.amount e.paid = e := rfl
theorem eta_co (e : Co) : Co.mk e.name e.house e.day e.minute e.flight e.answered = e := rfl
theorem eta_reg (r : Reg) : Reg.mk r.day r.types r.houses r.flights r.maps r.offers r.complaints r.fund = r := rfl
theorem decEv_5 {a b c d e : V} : decEv [a, b, c, d, e] = ⟨intOf a, strOf b, decStrs c, decInts d, strOf e⟩ := rfl
theorem decTy_3 {a b c : V} : decTy [a, b, c] = ⟨strOf a, intOf b, intOf c⟩ := rfl
theorem decHo_2 {a b : V} : decHo [a, b] = ⟨strOf a, intOf b⟩ := rfl
theorem decFl_5 {a b c d e : V} : decFl [a, b, c, d, e] = ⟨strOf a, strOf b, intOf c, intOf d, intOf e⟩ := rfl
theorem decMp_3 {a b c : V} : decMp [a, b, c] = ⟨strOf a, intOf b, decInts c⟩ := rfl
theorem decOf_4 {a b c d : V} : decOf [a, b, c, d] = ⟨strOf a, strOf b, intOf c, boolOf d⟩ := rfl
theorem decCo_6 {a b c d e f : V} : decCo [a, b, c, d, e, f] = ⟨strOf a, strOf b, intOf c, intOf d, strOf e, intOf f⟩ := rfl
theorem boolOf_bool {b : Bool} : boolOf (.bool b) = b := rfl
attribute [go_sem] arg_0 arg_1 arg_2 arg_3 eta_ev eta_ty eta_ho eta_fl eta_mp eta_of eta_co eta_reg decEv_5 decTy_3 decHo_2 decFl_5 decMp_3 decOf_4 decCo_6 boolOf_bool
/-- The name in a structure; the names of structures. -/
def nmC {α : Type} (enc : α → List V) (dec : List V → α) (nm : α → Str) : Contract := fun _ args => ⟨∃ t, args = [.agg (enc t)], .str (nm (dec (cellsOf (arg args 0)))), none⟩
def mapNmC {α : Type} [Inhabited α] (sz : Nat) (enc : α → List V) (dec : List V → α) (nm : α → Str) (k : FuncId) : Contract := fun _ args =>
  ⟨∃ l : List α, args = [encRows sz enc l, .fn (.func k) [] []] ∧ l.length ≤ 1000000, encStrs ((decRows dec (arg args 0)).map nm), none⟩
/-- The place of a string, or -1. -/
def idxE (l : List Str) (s : Str) : Int := if s ∈ l then (place l s : Int) else -1
/-- A list of strings, however its elements are written. -/
def StrsV (n : Nat) (get : Nat → List V) : Prop := n ≤ 1000000 ∧ ∀ i, i < n → get i = [.str (strOf ((get i).getD 0 .top))]
def idxSC : Contract := fun _ args => ⟨∃ n get s, args = [.sl n 1 get, .str s] ∧ StrsV n get, .int .i64 (idxE (decStrs (arg args 0)) (strOf (arg args 1))), none⟩
def containsC : Contract := fun _ args => ⟨∃ n get s, args = [.sl n 1 get, .str s] ∧ StrsV n get, .bool (decide (strOf (arg args 1) ∈ decStrs (arg args 0))), none⟩
attribute [go_sem] nmC mapNmC idxSC containsC
theorem strsV {l : List Str} (h : l.length ≤ 1000000) : StrsV l.length fun i => [.str (el l i)] := ⟨h, fun i hi => rfl⟩
theorem dec_sl {n sz : Nat} {get : Nat → List V} : decStrs (.sl n sz get) = (List.range n).map fun i => strOf ((get i).getD 0 .top) := rfl
theorem vent_map {α : Type} [Inhabited α] {f : α → Str} {l : List α} {n : Nat} {g : Nat → List V} (hn : n = l.length) (h : ∀ i, i < l.length → g i = [.str (f (el l i))]) : VEnt (.sl n 1 g) (encStrs (l.map f)) :=
  vent_strs (by simpa using hn) fun i hi => by rw [h i (by simpa using hi), el_map f l (by simpa using hi)]
theorem ones_str {s : Str} : Ones [V.str s] := ones_cons (.str _) rfl ones_nil
theorem ones_int {n : Int} : Ones [V.int .i64 n] := ones_cons (.int _ _) rfl ones_nil

theorem place_lt {l : List Str} {s : Str} (h : s ∈ l) : place l s < l.length := by
  unfold place
  exact List.findIdx_lt_length_of_exists ⟨s, h, by simp⟩
theorem place_at {l : List Str} {s : Str} (h : s ∈ l) : el l (place l s) = s := by
  have hlt := place_lt h
  have q : decide (l[place l s] = s) = true := List.findIdx_getElem (w := hlt) (p := fun x => decide (x = s)) (xs := l)
  rw [el_get _ hlt]
  exact of_decide_eq_true q
theorem place_of {l : List Str} {s : Str} {i : Nat} (hi : i < l.length) (h : el l i = s) (hb : ∀ j, j < i → el l j ≠ s) : place l s = i := by
  unfold place
  rw [List.findIdx_eq hi]
  refine ⟨by rw [el_get _ hi] at h; simpa using h, fun j hj => ?_⟩
  have := hb j hj
  rw [el_get _ (by omega)] at this
  simpa using this
theorem idx_of {l : List Str} {s : Str} {i : Nat} (hi : i < l.length) (h : el l i = s) (hb : ∀ j, j < i → el l j ≠ s) : idxE l s = i := by
  unfold idxE
  rw [if_pos (by rw [← h, el_get _ hi]; exact List.getElem_mem hi), place_of hi h hb]
theorem idx_none {l : List Str} {s : Str} (hb : ∀ j, j < l.length → el l j ≠ s) : idxE l s = -1 := by
  unfold idxE
  rw [if_neg fun h => ?_]
  exact hb _ (place_lt h) (place_at h)
theorem idx_nonneg {l : List Str} {s : Str} : decide (0 ≤ idxE l s) = decide (s ∈ l) := by
  unfold idxE
  by_cases h : s ∈ l <;> simp [h]

/-- Lists that have at most so many elements as any machine takes. -/
structure RL (r : Reg) : Prop where
  types : r.types.length ≤ 1000000
  houses : r.houses.length ≤ 1000000
  flights : r.flights.length ≤ 1000000
  maps : r.maps.length ≤ 1000000
  offers : r.offers.length ≤ 1000000
  complaints : r.complaints.length ≤ 1000000
theorem RL.names {r : Reg} (h : RL r) (c : Int) : (r.namesOf c).length ≤ 1000000 := by
  unfold Reg.namesOf
  repeat' split
  all_goals rw [List.length_map]
  · exact h.types
  · exact h.houses
  · exact h.flights
  · exact h.maps
  · exact h.offers
  · exact h.complaints
def namesC : Contract := fun _ args => ⟨∃ r c, args = [.cptr (encReg r), .int .u8 c] ∧ RL r, encStrs ((decReg (cellsOf (arg args 0))).namesOf (intOf (arg args 1))), none⟩
def indexC : Contract := fun _ args => ⟨∃ r c s, args = [.cptr (encReg r), .int .u8 c, .str s] ∧ RL r, .int .i64 (idxE ((decReg (cellsOf (arg args 0))).namesOf (intOf (arg args 1))) (strOf (arg args 2))), none⟩
/-- A structure with a name that there is. -/
def findC {α : Type} (c : Int) (enc : α → List V) (f : Reg → Str → α) : Contract := fun _ args =>
  ⟨∃ r s, args = [.cptr (encReg r), .str s] ∧ RL r ∧ s ∈ r.namesOf c, .cptr (enc (f (decReg (cellsOf (arg args 0))) (strOf (arg args 1)))), none⟩
attribute [go_sem] namesC indexC findC
theorem idx_in {l : List Str} {s : Str} (h : s ∈ l) : idxE l s = (place l s : Nat) := if_pos h
theorem drop_reg1 (r : Reg) : List.drop 1 (encReg r) = [encRows 3 encTy r.types, encRows 2 encHo r.houses, encRows 5 encFl r.flights, encRows 3 encMp r.maps, encRows 4 encOf r.offers, encRows 6 encCo r.complaints, .int .i64 r.fund] := rfl
theorem drop_reg2 (r : Reg) : List.drop 2 (encReg r) = [encRows 2 encHo r.houses, encRows 5 encFl r.flights, encRows 3 encMp r.maps, encRows 4 encOf r.offers, encRows 6 encCo r.complaints, .int .i64 r.fund] := rfl
theorem drop_reg3 (r : Reg) : List.drop 3 (encReg r) = [encRows 5 encFl r.flights, encRows 3 encMp r.maps, encRows 4 encOf r.offers, encRows 6 encCo r.complaints, .int .i64 r.fund] := rfl
theorem drop_reg4 (r : Reg) : List.drop 4 (encReg r) = [encRows 3 encMp r.maps, encRows 4 encOf r.offers, encRows 6 encCo r.complaints, .int .i64 r.fund] := rfl
theorem drop_reg5 (r : Reg) : List.drop 5 (encReg r) = [encRows 4 encOf r.offers, encRows 6 encCo r.complaints, .int .i64 r.fund] := rfl
theorem drop_reg6 (r : Reg) : List.drop 6 (encReg r) = [encRows 6 encCo r.complaints, .int .i64 r.fund] := rfl
theorem drop_reg7 (r : Reg) : List.drop 7 (encReg r) = [.int .i64 r.fund] := rfl
theorem head_reg (r : Reg) : (encReg r).head? = some (.int .i64 r.day) := rfl
attribute [go_sem] drop_reg1 drop_reg2 drop_reg3 drop_reg4 drop_reg5 drop_reg6 drop_reg7 head_reg
theorem ones_pu_ty (t : Ty) : Pu (.cptr (encTy t)) ↔ True := iff_true_intro (pu_cptr.2 (ones_ty t).pu)
theorem ones_pu_ho (t : Ho) : Pu (.cptr (encHo t)) ↔ True := iff_true_intro (pu_cptr.2 (ones_ho t).pu)
theorem ones_pu_fl (t : Fl) : Pu (.cptr (encFl t)) ↔ True := iff_true_intro (pu_cptr.2 (ones_fl t).pu)
theorem ones_pu_mp (t : Mp) : Pu (.cptr (encMp t)) ↔ True := iff_true_intro (pu_cptr.2 (ones_mp t).pu)
theorem ones_pu_of (t : Of) : Pu (.cptr (encOf t)) ↔ True := iff_true_intro (pu_cptr.2 (ones_of t).pu)
theorem ones_pu_co (t : Co) : Pu (.cptr (encCo t)) ↔ True := iff_true_intro (pu_cptr.2 (ones_co t).pu)
theorem all_reg (r : Reg) : (∀ v, v ∈ encReg r → Pu v) ↔ True := iff_true_intro (reg_pu r)
theorem all_hist (r : Hist) : (∀ v, v ∈ encHist r → Pu v) ↔ True := iff_true_intro (hist_pu r)
theorem all_ev (r : Ev) : (∀ v, v ∈ encEv r → Pu v) ↔ True := iff_true_intro (ones_ev r).pu
theorem all_ty (r : Ty) : (∀ v, v ∈ encTy r → Pu v) ↔ True := iff_true_intro (ones_ty r).pu
theorem all_ho (r : Ho) : (∀ v, v ∈ encHo r → Pu v) ↔ True := iff_true_intro (ones_ho r).pu
theorem all_fl (r : Fl) : (∀ v, v ∈ encFl r → Pu v) ↔ True := iff_true_intro (ones_fl r).pu
theorem all_mp (r : Mp) : (∀ v, v ∈ encMp r → Pu v) ↔ True := iff_true_intro (ones_mp r).pu
theorem all_of (r : Of) : (∀ v, v ∈ encOf r → Pu v) ↔ True := iff_true_intro (ones_of r).pu
theorem all_co (r : Co) : (∀ v, v ∈ encCo r → Pu v) ↔ True := iff_true_intro (ones_co r).pu
attribute [go_sem] all_reg all_hist all_ev all_ty all_ho all_fl all_mp all_of all_co
attribute [go_sem] ones_pu_ty ones_pu_ho ones_pu_fl ones_pu_mp ones_pu_of ones_pu_co
/-! ### Rows that are written out -/
theorem pu_tyU (n sz : Nat) (f0 : Nat → Str) (f1 : Nat → Int) (f2 : Nat → Int) : Pu (.sl n sz fun i => [.str (f0 i), .int .i64 (f1 i), .int .i64 (f2 i)]) ↔ True := iff_true_intro (pu_sl.2 fun i _ v hv => by
  simp only [List.mem_cons, List.not_mem_nil, or_false] at hv
  rcases hv with rfl | rfl | rfl
  · exact .str _
  · exact .int _ _
  · exact .int _ _)
theorem dec_tysU (l : List Ty) : decRows decTy (.sl l.length 3 fun i => [.str ((el l i).name), .int .i64 ((el l i).energy), .int .i64 ((el l i).factor)]) = l := dec_tys l
theorem dec_tysV (l : List Ty) : decRows decTy (.sl l.length 3 fun i => encTy (el l i)) = l := dec_tys l
theorem pu_tysV (l : List Ty) : Pu (.sl l.length 3 fun i => encTy (el l i)) ↔ True := pu_tys l
theorem pu_hoU (n sz : Nat) (f0 : Nat → Str) (f1 : Nat → Int) : Pu (.sl n sz fun i => [.str (f0 i), .int .i64 (f1 i)]) ↔ True := iff_true_intro (pu_sl.2 fun i _ v hv => by
  simp only [List.mem_cons, List.not_mem_nil, or_false] at hv
  rcases hv with rfl | rfl
  · exact .str _
  · exact .int _ _)
theorem dec_hosU (l : List Ho) : decRows decHo (.sl l.length 2 fun i => [.str ((el l i).name), .int .i64 ((el l i).share)]) = l := dec_hos l
theorem dec_hosV (l : List Ho) : decRows decHo (.sl l.length 2 fun i => encHo (el l i)) = l := dec_hos l
theorem pu_hosV (l : List Ho) : Pu (.sl l.length 2 fun i => encHo (el l i)) ↔ True := pu_hos l
theorem pu_flU (n sz : Nat) (f0 : Nat → Str) (f1 : Nat → Str) (f2 : Nat → Int) (f3 : Nat → Int) (f4 : Nat → Int) : Pu (.sl n sz fun i => [.str (f0 i), .str (f1 i), .int .i64 (f2 i), .int .i64 (f3 i), .int .i64 (f4 i)]) ↔ True := iff_true_intro (pu_sl.2 fun i _ v hv => by
  simp only [List.mem_cons, List.not_mem_nil, or_false] at hv
  rcases hv with rfl | rfl | rfl | rfl | rfl
  · exact .str _
  · exact .str _
  · exact .int _ _
  · exact .int _ _
  · exact .int _ _)
theorem dec_flsU (l : List Fl) : decRows decFl (.sl l.length 5 fun i => [.str ((el l i).name), .str ((el l i).type), .int .i64 ((el l i).day), .int .i64 ((el l i).minute), .int .i64 ((el l i).heard)]) = l := dec_fls l
theorem dec_flsV (l : List Fl) : decRows decFl (.sl l.length 5 fun i => encFl (el l i)) = l := dec_fls l
theorem pu_flsV (l : List Fl) : Pu (.sl l.length 5 fun i => encFl (el l i)) ↔ True := pu_fls l
theorem pu_mpU (n sz : Nat) (f0 : Nat → Str) (f1 : Nat → Int) (f2 : Nat → List Int) : Pu (.sl n sz fun i => [.str (f0 i), .int .i64 (f1 i), encInts (f2 i)]) ↔ True := iff_true_intro (pu_sl.2 fun i _ v hv => by
  simp only [List.mem_cons, List.not_mem_nil, or_false] at hv
  rcases hv with rfl | rfl | rfl
  · exact .str _
  · exact .int _ _
  · exact (pu_encInts _).2 trivial)
theorem dec_mpsU (l : List Mp) : decRows decMp (.sl l.length 3 fun i => [.str ((el l i).name), .int .i64 ((el l i).day), encInts ((el l i).levels)]) = l := dec_mps l
theorem dec_mpsV (l : List Mp) : decRows decMp (.sl l.length 3 fun i => encMp (el l i)) = l := dec_mps l
theorem pu_mpsV (l : List Mp) : Pu (.sl l.length 3 fun i => encMp (el l i)) ↔ True := pu_mps l
theorem pu_ofU (n sz : Nat) (f0 : Nat → Str) (f1 : Nat → Str) (f2 : Nat → Int) (f3 : Nat → Bool) : Pu (.sl n sz fun i => [.str (f0 i), .str (f1 i), .int .i64 (f2 i), .bool (f3 i)]) ↔ True := iff_true_intro (pu_sl.2 fun i _ v hv => by
  simp only [List.mem_cons, List.not_mem_nil, or_false] at hv
  rcases hv with rfl | rfl | rfl | rfl
  · exact .str _
  · exact .str _
  · exact .int _ _
  · exact .bool _)
theorem dec_ofsU (l : List Of) : decRows decOf (.sl l.length 4 fun i => [.str ((el l i).name), .str ((el l i).house), .int .i64 ((el l i).amount), .bool ((el l i).paid)]) = l := dec_ofs l
theorem dec_ofsV (l : List Of) : decRows decOf (.sl l.length 4 fun i => encOf (el l i)) = l := dec_ofs l
theorem pu_ofsV (l : List Of) : Pu (.sl l.length 4 fun i => encOf (el l i)) ↔ True := pu_ofs l
theorem pu_coU (n sz : Nat) (f0 : Nat → Str) (f1 : Nat → Str) (f2 : Nat → Int) (f3 : Nat → Int) (f4 : Nat → Str) (f5 : Nat → Int) : Pu (.sl n sz fun i => [.str (f0 i), .str (f1 i), .int .i64 (f2 i), .int .i64 (f3 i), .str (f4 i), .int .i64 (f5 i)]) ↔ True := iff_true_intro (pu_sl.2 fun i _ v hv => by
  simp only [List.mem_cons, List.not_mem_nil, or_false] at hv
  rcases hv with rfl | rfl | rfl | rfl | rfl | rfl
  · exact .str _
  · exact .str _
  · exact .int _ _
  · exact .int _ _
  · exact .str _
  · exact .int _ _)
theorem dec_cosU (l : List Co) : decRows decCo (.sl l.length 6 fun i => [.str ((el l i).name), .str ((el l i).house), .int .i64 ((el l i).day), .int .i64 ((el l i).minute), .str ((el l i).flight), .int .i64 ((el l i).answered)]) = l := dec_cos l
theorem dec_cosV (l : List Co) : decRows decCo (.sl l.length 6 fun i => encCo (el l i)) = l := dec_cos l
theorem pu_cosV (l : List Co) : Pu (.sl l.length 6 fun i => encCo (el l i)) ↔ True := pu_cos l
theorem pu_evU (n sz : Nat) (f0 : Nat → Int) (f1 : Nat → Str) (f2 : Nat → List Str) (f3 : Nat → List Int) (f4 : Nat → Str) : Pu (.sl n sz fun i => [.int .i64 (f0 i), .str (f1 i), encStrs (f2 i), encInts (f3 i), .str (f4 i)]) ↔ True := iff_true_intro (pu_sl.2 fun i _ v hv => by
  simp only [List.mem_cons, List.not_mem_nil, or_false] at hv
  rcases hv with rfl | rfl | rfl | rfl | rfl
  · exact .int _ _
  · exact .str _
  · exact (pu_encStrs _).2 trivial
  · exact (pu_encInts _).2 trivial
  · exact .str _)
theorem dec_evsU (l : List Ev) : decRows decEv (.sl l.length 5 fun i => [.int .i64 ((el l i).num), .str ((el l i).kind), encStrs ((el l i).names), encInts ((el l i).vals), .str ((el l i).text)]) = l := dec_evs l
theorem dec_evsV (l : List Ev) : decRows decEv (.sl l.length 5 fun i => encEv (el l i)) = l := dec_evs l
theorem pu_evsV (l : List Ev) : Pu (.sl l.length 5 fun i => encEv (el l i)) ↔ True := pu_evs l
theorem pu_strsU (n sz : Nat) (f : Nat → Str) : Pu (.sl n sz fun i => [.str (f i)]) ↔ True := iff_true_intro (pu_sl.2 fun i _ v hv => by rw [List.mem_singleton.1 hv]; exact .str _)
theorem dec_strsU (l : List Str) : decStrs (.sl l.length 1 fun i => [.str (el l i)]) = l := dec_strs l
theorem dec_intsU (l : List Int) : decInts (.sl l.length 1 fun i => [.int .i64 (el l i)]) = l := dec_ints l
theorem decReg_8 {a b c d e f g h : V} : decReg [a, b, c, d, e, f, g, h] = ⟨intOf a, decRows decTy b, decRows decHo c, decRows decFl d, decRows decMp e, decRows decOf f, decRows decCo g, intOf h⟩ := rfl
attribute [go_sem] pu_tyU dec_tysU dec_tysV pu_tysV pu_hoU dec_hosU dec_hosV pu_hosV pu_flU dec_flsU dec_flsV pu_flsV pu_mpU dec_mpsU dec_mpsV pu_mpsV pu_ofU dec_ofsU dec_ofsV pu_ofsV pu_coU dec_cosU dec_cosV pu_cosV pu_evU dec_evsU dec_evsV pu_evsV pu_strsU dec_strsU dec_intsU decReg_8
/-- What is tried ahead. -/
theorem upXOffC : type_of% (And.intro @oneC_ints (And.intro @oneC_strs (And.intro @oneC_rows (And.intro @cellsV_ints (And.intro @cellsV_strs (And.intro @cellsV_rows (And.intro @isMsl_ints (And.intro @isMsl_strs (@isMsl_rows))))))))) := And.intro @oneC_ints (And.intro @oneC_strs (And.intro @oneC_rows (And.intro @cellsV_ints (And.intro @cellsV_strs (And.intro @cellsV_rows (And.intro @isMsl_ints (And.intro @isMsl_strs (@isMsl_rows))))))))
end Go.Fly.Off
end
