/- Part of a proof: an evaluator of the model's code by abstract values, and plain laws for it. No conditions. -/
import Derived.Test.YtfcdodaakhlppaaGreatDoorAK
set_option linter.unusedSimpArgs false
set_option linter.unusedVariables false
/- The office: events by themselves; the kinds of events as a map. -/
namespace Go.Fly.Off
open Go
/-- The map of the kinds of events, by the numbers of their functions. -/
def formVal (c a : Kd → FuncId) (k : Kd) : Value := .agg #[.string ⟨k.letters.toArray⟩, .int .i64 k.values, .func (.func (c k)) #[] #[], .func (.func (a k)) #[] #[]]
def formsList (c a : Kd → FuncId) : List Kd → Nat → List MapEntry
  | [], _ => []
  | k :: l, i => ⟨.string ⟨k.str.toArray⟩, formVal c a k, i⟩ :: formsList c a l (i + 1)
def formsObj (c a : Kd → FuncId) : Obj := .map (formsList c a Kd.all 0).toArray 13
/-- What the map holds of a kind, as an abstract value. -/
def formK (c a : Kd → FuncId) (k : Kd) : V := .agg [.str k.letters, .int .i64 k.values, .fn (.func (c k)) [] [], .fn (.func (a k)) [] []]
def formZ : V := .agg [.str [], .int .i64 0, .nilfn, .nilfn]
def formV (c a : Kd → FuncId) : Option Kd → V
  | some k => formK c a k
  | none => formZ
theorem formV_some (c a : Kd → FuncId) (k : Kd) : formV c a (some k) = formK c a k := rfl
theorem formV_none (c a : Kd → FuncId) : formV c a none = formZ := rfl
theorem same_str (s t : List UInt8) : Instr.sameNow .string (.string ⟨s.toArray⟩) (.string ⟨t.toArray⟩) = some (decide (t = s)) := by
  show some ((⟨s.toArray⟩ : ByteArray) == ⟨t.toArray⟩) = _
  rw [show ((⟨s.toArray⟩ : ByteArray) == ⟨t.toArray⟩) = (s.toArray == t.toArray) from rfl]
  congr 1
  by_cases h : t = s
  · subst h; simp
  · simp [h, Ne.symm h]
theorem findNow_forms (c a : Kd → FuncId) (s : Str) : ∀ (l : List Kd) (i j : Nat), (Instr.findNow .string (.string ⟨s.toArray⟩) (formsList c a l i) j).map (fun r => r.map (·.2)) = some ((l.find? fun k => decide (k.str = s)).map (formVal c a))
  | [], i, j => rfl
  | k :: l, i, j => by
    unfold formsList Instr.findNow
    rw [same_str]
    by_cases h : k.str = s
    · simp [h]
    · have ih := findNow_forms c a s l (i + 1) (j + 1)
      simp only [h, decide_false, List.find?_cons, Bool.false_eq_true]
      exact ih
theorem formK_of (c a : Kd → FuncId) (k : Kd) : ofValue (formVal c a k) = formK c a k := by
  unfold formVal ofValue formK
  simp [ofCell]
/-- A look into the map. -/
theorem look_forms {P : Program} {t kt et : TypeId} (ht : P.underlying t = some (.map kt et)) (hk : P.underlying kt = some .string) (hz : tzero P et = some formZ) (c a : Kd → FuncId) (s : Str) :
    lookO P t (formsObj c a) s = some (formV c a (kindOf s), (kindOf s).isSome) := by
  have h := findNow_forms c a s Kd.all 0 0
  unfold lookO formsObj
  rw [ht]
  simp only [hk]
  have hkf : (Kd.all.find? fun k => decide (k.str = s)) = kindOf s := rfl
  rw [hkf] at h
  cases hf : Instr.findNow .string (.string ⟨s.toArray⟩) (formsList c a Kd.all 0) 0 with
  | none => rw [hf] at h; cases h
  | some r =>
    rw [hf] at h
    simp only [Option.map_some, Option.some.injEq] at h
    cases r with
    | none =>
      simp only [Option.map_none] at h
      cases hkk : kindOf s with
      | some k => rw [hkk] at h; cases h
      | none => simp only [hz]; rfl
    | some p =>
      obtain ⟨i, v⟩ := p
      simp only [Option.map_some] at h
      cases hkk : kindOf s with
      | none => rw [hkk] at h; cases h
      | some k =>
        rw [hkk] at h
        simp only [Option.map_some, Option.some.injEq] at h
        subst h
        simp only [formK_of]
        rfl
/-- The rules of evaluation for such maps. -/
def formsT (P : Program) (t : TypeId) : Prop := match P.underlying t with
  | some (.map kt et) => P.underlying kt = some .string ∧ tzero P et = some formZ
  | _ => False
theorem formsT_eq {P : Program} {t : TypeId} : formsT P t = (match P.underlying t with
  | some (.map kt et) => P.underlying kt = some .string ∧ tzero P et = some (.agg [.str [], .int .i64 0, .nilfn, .nilfn])
  | _ => False) := propext ⟨id, id⟩
theorem look_formsT {P : Program} {t : TypeId} (h : formsT P t) (c a : Kd → FuncId) (s : Str) : lookO P t (formsObj c a) s = some (formV c a (kindOf s), (kindOf s).isSome) := by
  unfold formsT at h
  split at h
  · rename_i kt et ht
    exact look_forms ht h.1 h.2 c a s
  · exact h.elim
theorem pu_mapc (o : Obj) : Pu (.mapc o) ↔ True := iff_true_intro (.mapc o)
theorem frz_mapc {n : Nat} {hp : Heap} (o : Obj) : frz (n + 1) hp (.mapc o) = .mapc o := frz_pu (.mapc o)
theorem frz_mapp {n : Nat} {hp : Heap} {L : Nat} : frz (n + 1) hp (.mapp L) = match hp (0, L) with
    | some (.raw o) => .mapc o
    | _ => .top := by
  have : ¬ Pu (.mapp L) := fun h => by cases h
  rw [frz, if_neg this]
  rfl
theorem frz_mappU {n : Nat} {hp : Heap} {L : Nat} {o : Obj} : frz (n + 1) (updH hp (0, L) (.raw o)) (.mapp L) = .mapc o := by rw [frz_mapp, updH_same]
theorem fN_nil {k : Value} {i : Nat} : Instr.findNow .string k [] i = some none := rfl
theorem fN_ne {s t : List UInt8} {v : Value} {b i : Nat} {es : List MapEntry} (h : ¬ t = s) : Instr.findNow .string (.string ⟨s.toArray⟩) (⟨.string ⟨t.toArray⟩, v, b⟩ :: es) i = Instr.findNow .string (.string ⟨s.toArray⟩) es (i + 1) := by
  show (match Instr.sameNow .string (.string ⟨s.toArray⟩) (.string ⟨t.toArray⟩) with | some true => _ | some false => _ | none => _) = _
  rw [same_str, decide_eq_false h]
theorem u8_1 : ((116 : UInt8) = 102) = False := eq_false (by decide)
theorem u8_2 : ((116 : UInt8) = 117) = False := eq_false (by decide)
theorem u8_3 : ((102 : UInt8) = 117) = False := eq_false (by decide)
theorem u8_4 : ((104 : UInt8) = 109) = False := eq_false (by decide)
theorem u8_5 : ((104 : UInt8) = 111) = False := eq_false (by decide)
theorem u8_6 : ((109 : UInt8) = 111) = False := eq_false (by decide)
theorem u8_7 : ((102 : UInt8) = 97) = False := eq_false (by decide)
theorem u8_8 : ((99 : UInt8) = 112) = False := eq_false (by decide)
theorem u8_9 : ((111 : UInt8) = 105) = False := eq_false (by decide)
theorem u8_10 : ((112 : UInt8) = 100) = False := eq_false (by decide)
theorem u8_11 : ((99 : UInt8) = 100) = False := eq_false (by decide)
attribute [go_sem] formsT_eq look_formsT pu_mapc frz_mapc fN_nil fN_ne
def formsC (c a : Kd → FuncId) : Contract := fun _ args => ⟨args = [], .mapc (formsObj c a), none⟩
def strErrC : Contract := fun _ args =>
  match args with
  | [.str s] => ⟨s.length ≤ 9223372036854775807, .int .i64 (err (!nameB s) 8), none⟩
  | _ => ⟨False, .top, none⟩
def mapStrC (k : FuncId) : Contract := fun _ args => ⟨∃ l : List Str, args = [encStrs l, .fn (.func k) [] []] ∧ l.length ≤ 1000000 ∧ ∀ s ∈ l, s.length ≤ 9223372036854775807, encInts ((decStrs (arg args 0)).map fun s => err (!nameB s) 8), none⟩
def mapRngC (k : FuncId) : Contract := fun _ args => ⟨∃ l : List Int, args = [encInts l, .fn (.func k) [] []] ∧ l.length ≤ 1000000, encInts ((decInts (arg args 0)).map fun v => rng v 0 999999999), none⟩
/-- An event of which no part is longer than any machine takes. -/
structure EvB (e : Ev) : Prop where
  names : e.names.length ≤ 1000000
  vals : e.vals.length ≤ 1000000
  strs : ∀ s ∈ e.names, s.length ≤ 9223372036854775807
def eventC : Contract := fun _ args => ⟨∃ e, args = [.agg (encEv e)] ∧ EvB e, .int .i64 (eventE (decEv (cellsOf (arg args 0)))), none⟩
attribute [go_sem] strErrC formsC mapStrC mapRngC eventC formV_some formV_none formK formZ
theorem firstI_el (l : List Int) : firstI (intAt fun i => [.int .i64 (el l i)]) 0 l.length = firstL l :=
  firstI_list l _ 0 fun j hj => by rw [Nat.zero_add]; rfl
theorem isInts_el (l : List Int) : (IsInts l.length fun i => [.int .i64 (el l i)]) ↔ l.length ≤ 9223372036854775807 := ⟨fun h => h.1, fun h => ⟨h, fun i hi => rfl⟩⟩
theorem firstI_el2 (l : List Int) : firstI (el l) 0 l.length = firstL l := firstI_el l
theorem err_t {e : Int} : err true e = e := rfl
theorem err_f {e : Int} : err false e = 0 := rfl
attribute [go_sem] firstI_el firstI_el2 isInts_el
theorem firstL_cons (x : Int) (l : List Int) : firstL (x :: l) = if x ≠ 0 then x else firstL l := rfl
theorem firstL_append (l m : List Int) : firstL (l ++ m) = if firstL l ≠ 0 then firstL l else firstL m := by
  induction l with
  | nil => simp [firstL]
  | cons x l ih =>
    rw [List.cons_append, firstL_cons, firstL_cons, ih]
    by_cases h : x = 0 <;> simp [h]
/-- An event's error, as the program reckons it. -/
theorem eventE_none {e : Ev} (h : kindOf e.kind = none) (sh : Int) : firstL [rng e.num 1 1000, 13, sh] = eventE e ∧ eventE e ≠ 0 := by
  unfold eventE
  rw [h]
  by_cases q : rng e.num 1 1000 = 0 <;> simp [firstL, q]
theorem eventE_some {e : Ev} {k : Kd} (h : kindOf e.kind = some k) : eventE e =
    if firstL [rng e.num 1 1000, 0, err (decide (e.names.length ≠ k.letters.length) || decide (e.vals.length ≠ k.values)) 2] ≠ 0 then firstL [rng e.num 1 1000, 0, err (decide (e.names.length ≠ k.letters.length) || decide (e.vals.length ≠ k.values)) 2]
    else firstL [firstL (e.names.map fun s => err (!nameB s) 8), firstL (e.vals.map fun v => rng v 0 999999999), err (decide (e.text ≠ [])) 1] := by
  unfold eventE
  rw [h]
  simp only [List.append_assoc, firstL_append]
  generalize firstL (e.names.map fun s => err (!nameB s) 8) = A
  generalize firstL (e.vals.map fun v => rng v 0 999999999) = B
  simp only [firstL]
  generalize rng e.num 1 1000 = C
  generalize err (decide (e.names.length ≠ k.letters.length) || decide (e.vals.length ≠ k.values)) 2 = D
  by_cases c : C = 0 <;> by_cases d : D = 0 <;> by_cases a : A = 0 <;> simp [c, d, a]
end Go.Fly.Off
