/- Part of a proof: an evaluator of the model's code by abstract values, and plain laws for it. No conditions. -/
import Derived.Test.YtfcdodaakhlppaaGreatDoorAV
set_option linter.unusedSimpArgs false
set_option linter.unusedVariables false
section
/- The office: what is asked about a name; numbers. -/
namespace Go.Fly.Off
open Go
/-- What stands behind a journal, as its questions see it. -/
def askE (l : List Ev) (c : Int) (s : Str) : Int := if (replayed levelE l).2.2 ≠ 0 then (replayed levelE l).2.2 else err (!decide (s ∈ (replayed levelE l).1.now.namesOf c)) 10
def askC : Contract := fun _ args => ⟨∃ l c s, args = [encRows 5 encEv l, .int .u8 c, .str s] ∧ l.length ≤ 1000000 ∧ (∀ e ∈ l, EvB e),
  .tup [.cptr (encHist (replayed levelE (decRows decEv (arg args 0))).1), .int .i64 (askE (decRows decEv (arg args 0)) (intOf (arg args 1)) (strOf (arg args 2)))], none⟩
def numE (l : List Ev) (s : Str) : Int × Int × Int :=
  if askE l 104 s ≠ 0 then (0, 0, askE l 104 s) else
    let r := (replayed levelE l).1.now
    (sumOf (r.chain (r.house s).share), levelE (sumOf (r.chain (r.house s).share)), 0)
def numberQC : Contract := fun _ args => ⟨∃ l s, args = [encRows 5 encEv l, .str s] ∧ l.length ≤ 1000000 ∧ (∀ e ∈ l, EvB e),
  .tup [.int .i64 (numE (decRows decEv (arg args 0)) (strOf (arg args 1))).1, .int .i64 (numE (decRows decEv (arg args 0)) (strOf (arg args 1))).2.1, .int .i64 (numE (decRows decEv (arg args 0)) (strOf (arg args 1))).2.2], none⟩
attribute [go_sem] askC numberQC
theorem ask_zero {l : List Ev} {c : Int} {s : Str} (h : askE l c s = 0) : (replayed levelE l).2.2 = 0 ∧ s ∈ (replayed levelE l).1.now.namesOf c := by
  unfold askE at h
  split at h
  · rename_i q; exact absurd h q
  · rename_i q
    have := (err_zero (e := 10) (by decide)).1 h
    exact ⟨Classical.not_not.1 q, by simpa using this⟩
theorem house_mem {r : Reg} {s : Str} (h : s ∈ r.namesOf 104) : r.house s ∈ r.houses := el_mem (place_lt_of (f := Ho.name) h)
theorem replayed_good (l : List Ev) : Good (replayed levelE l).1.now := (replayed_ok l).1.good
def wordsC : Contract := fun _ args => ⟨∃ n get, args = [.sl n 1 get] ∧ StrsV n get, encStrs (decStrs (arg args 0)), none⟩
theorem dec_lit1 {a : Str} : decStrs (.sl 1 1 (rowAt [.str a] 1)) = [a] := rfl
theorem dec_lit2 {a b : Str} : decStrs (.sl 2 1 (rowAt [.str a, .str b] 1)) = [a, b] := rfl
theorem dec_litI1 {a : Int} : decInts (.sl 1 1 (rowAt [.int .i64 a] 1)) = [a] := rfl
theorem dec_litI2 {a b : Int} : decInts (.sl 2 1 (rowAt [.int .i64 a, .int .i64 b] 1)) = [a, b] := rfl
attribute [go_sem] dec_lit1 dec_lit2 dec_litI1 dec_litI2
theorem lit1_ok {a : Str} : StrsV 1 (rowAt [.str a] 1) := ⟨by omega, fun i hi => by obtain rfl : i = 0 := (by omega); rfl⟩
theorem vent_dec {n : Nat} {get : Nat → List V} (h : StrsV n get) : VEnt (.sl n 1 get) (encStrs (decStrs (.sl n 1 get))) := vent_strs (by simp [decStrs, decRows]) fun i hi => by
  have hi : i < n := by simpa [decStrs, decRows] using hi
  rw [h.2 i hi]
  simp [decStrs, decRows, el, hi]
theorem w8 : (64 < 8 ∧ IntKind.u8.signed = true) = False := eq_false (by decide)
/-- A digit as a word. -/
def dig (n : Int) : Str := [UInt8.ofNat (48 + n.toNat)]
def text1C : Contract := fun _ args => ⟨∃ n, args = [.int .i64 n] ∧ 0 ≤ n ∧ n ≤ 9, .str (dig (intOf (arg args 0))), none⟩
attribute [go_sem] wordsC text1C
theorem row_ok0 {cells : List V} {sz : Nat} (hl : cells.length = sz) (h : Ones cells) : ∀ i, i < 1 → ∀ v, v ∈ rowAt cells sz i → (Pu v ∨ isMsl v = true) ∧ oneC v = true := fun i hi v hv => by
  subst hl
  exact row_ok rfl h i hi v (by rw [Nat.zero_add]; exact hv)
theorem hpLe_low {S H : Heap} {L : Loc} {o o' : AObj} {ck : Nat} (hf : ∀ q : Loc, ck < q.1 → H q = none) (hs : ∀ q : Loc, q.1 ≤ ck → S q = H q) (hS : S L = some o) (ho : ObjLe o o') : HpLe S (updH H L o') := by
  intro q x hx
  by_cases e : q = L
  · subst e
    rw [updH_same] at hx
    cases hx
    exact ⟨o, hS, ho⟩
  · rw [updH_ne e] at hx
    refine ⟨x, ?_, ObjLe.refl _⟩
    rw [hs q (by apply Classical.byContradiction; intro h; rw [hf q (by omega)] at hx; cases hx)]
    exact hx
/-- What a call is handed may be weakened. -/
theorem callT_vent {X : Cx} {hp : Heap} {ck : Nat} {f : FuncId} {args args2 : List V} {Kn : V → Heap → Nat → Prop} (hl : args2.length = args.length) (hv : ∀ (j : Nat) (v : V), args2[j]? = some v → ∃ u, args[j]? = some u ∧ VEnt u v)
    (h : CallT X hp ck f args2 Kn) : CallT X hp ck f args Kn := fun w M B vs hst hho hargs => h w M B vs hst hho ⟨by rw [hl]; exact hargs.1, fun j v hj => by
      obtain ⟨u, h1, h2⟩ := hv j v hj
      exact h2 _ _ (hargs.2 j u h1)⟩
theorem callT_vent4 {X : Cx} {hp : Heap} {ck : Nat} {f : FuncId} {a b c d c' d' : V} {Kn : V → Heap → Nat → Prop} (h1 : VEnt c c') (h2 : VEnt d d') (h : CallT X hp ck f [a, b, c', d'] Kn) : CallT X hp ck f [a, b, c, d] Kn :=
  callT_vent (args2 := [a, b, c', d']) rfl (fun j v hv => by
    rcases j with _ | _ | _ | _ | j
    · exact ⟨_, rfl, by simp at hv; rw [hv]; exact VEnt.refl _⟩
    · exact ⟨_, rfl, by simp at hv; rw [hv]; exact VEnt.refl _⟩
    · exact ⟨_, rfl, by simp at hv; rw [← hv]; exact h1⟩
    · exact ⟨_, rfl, by simp at hv; rw [← hv]; exact h2⟩
    · simp at hv) h
theorem rowAt_one {f : Nat → V} {n i : Nat} {cells : List V} (hc : cells[i]? = some (f i)) : rowAt cells 1 i = [f i] := by
  unfold rowAt
  rw [Nat.mul_one]
  have h := List.getElem?_eq_some_iff.1 hc
  obtain ⟨hlt, he⟩ := h
  rw [List.drop_eq_getElem_cons hlt, he]
  rfl
theorem vent_rowI (l : List Int) : VEnt (.sl l.length 1 (rowAt (l.map (V.int .i64)) 1)) (encInts l) := VEnt.sl fun i hi => rowAt_one (f := fun i => .int .i64 (el l i)) (n := 0) (by simp [hi, el])
/-- A journal in a variable. -/
def putJ (H : Heap) (box ln : Loc) (l : List Ev) : Heap := updH (updH H box (.cells [.msl ln 0 l.length])) ln (.arr l.length 5 fun i => encEv (el l i))
theorem putJ_le {S H : Heap} {box ln : Loc} {l : List Ev} {ck : Nat} (hne : ¬ box = ln) (hf : ∀ q : Loc, ck < q.1 → H q = none) (hs : ∀ q : Loc, q.1 ≤ ck → ¬ q = box → ¬ q = ln → S q = H q)
    (hb : S box = some (.cells [.msl ln 0 l.length])) (he : ∃ o, S ln = some o ∧ ObjLe o (.arr l.length 5 fun i => encEv (el l i))) : HpLe S (putJ H box ln l) := by
  intro q o ho
  unfold putJ at ho
  by_cases q1 : q = ln
  · subst q1
    rw [updH_same] at ho
    cases ho
    exact he
  rw [updH_ne q1] at ho
  by_cases q2 : q = box
  · subst q2
    rw [updH_same] at ho
    cases ho
    exact ⟨_, hb, ObjLe.refl _⟩
  rw [updH_ne q2] at ho
  refine ⟨o, ?_, ObjLe.refl _⟩
  rw [hs q (by apply Classical.byContradiction; intro h; rw [hf q (by omega)] at ho; cases ho) q2 q1]
  exact ho
theorem putJ_box {H : Heap} {box ln : Loc} {l : List Ev} (hne : ¬ box = ln) : putJ H box ln l box = some (.cells [.msl ln 0 l.length]) := by unfold putJ; rw [updH_ne hne, updH_same]
theorem putJ_ln {H : Heap} {box ln : Loc} {l : List Ev} : putJ H box ln l ln = some (.arr l.length 5 fun i => encEv (el l i)) := updH_same _ _ _
theorem putJ_ne {H : Heap} {box ln q : Loc} {l : List Ev} (h1 : ¬ q = box) (h2 : ¬ q = ln) : putJ H box ln l q = H q := by unfold putJ; rw [updH_ne h2, updH_ne h1]
/-- A journal in a variable, and nothing above. -/
structure JAt (S : Heap) (box ln : Loc) (l : List Ev) (ck : Nat) : Prop where
  atb : S box = some (.cells [.msl ln 0 l.length])
  atl : S ln = some (.arr l.length 5 fun i => encEv (el l i))
  lo1 : box.1 ≤ ck
  lo2 : ln.1 ≤ ck
  ne : ¬ box = ln
  free : ∀ q : Loc, ck < q.1 → S q = none
  len : l.length ≤ 1000
theorem JAt.put {S : Heap} {box ln : Loc} {l m : List Ev} {ck : Nat} (h : JAt S box ln l ck) (hm : m.length ≤ 1000) : JAt (putJ S box ln m) box ln m ck :=
  ⟨putJ_box h.ne, putJ_ln, h.lo1, h.lo2, h.ne, fun q hq => by
    have h1 := h.lo1
    have h2 := h.lo2
    rw [putJ_ne (by rintro rfl; omega) (by rintro rfl; omega)]; exact h.free q hq, hm⟩
theorem JAt.mono {S : Heap} {box ln : Loc} {l : List Ev} {ck ck' : Nat} (h : JAt S box ln l ck) (hc : ck ≤ ck') : JAt S box ln l ck' :=
  ⟨h.atb, h.atl, Nat.le_trans h.lo1 hc, Nat.le_trans h.lo2 hc, h.ne, fun q hq => h.free q (by omega), h.len⟩
theorem hpLe_up {S S' : Heap} {ck : Nat} (hf : ∀ q : Loc, ck < q.1 → S q = none) (hs : ∀ q : Loc, q.1 ≤ ck → S' q = S q) : HpLe S' S := fun q o ho => ⟨o, by
  rw [hs q (by apply Classical.byContradiction; intro h; rw [hf q (by omega)] at ho; cases ho)]
  exact ho, ObjLe.refl _⟩
end Go.Fly.Off
end
section
/- The laws on the office: contracts of their fixed example; calls whose continuation is not looked at. -/
namespace Go.Fly.Off
open Go
def eNumberC : Contract := fun _ args => ⟨args = [], .bool true, none⟩
attribute [go_sem] eNumberC
/-- A call whose continuation is not looked at. -/
def CallH (X : Cx) (hp : Heap) (ck : Nat) (f : FuncId) (args : List V) [h : Hid (V → Heap → Nat → Prop)] : Prop := CallT X hp ck f args h.val
theorem callT_hide {X : Cx} {hp : Heap} {ck : Nat} {f : FuncId} {args : List V} {Kn : V → Heap → Nat → Prop} : CallT X hp ck f args Kn = @CallH X hp ck f args ⟨Kn⟩ := rfl
theorem callH_clean {X : Cx} {hp hp2 : Heap} {ck : Nat} {f : FuncId} {args : List V} {Kn : V → Heap → Nat → Prop} (hle : HpLe hp hp2) (ht : tmLe args args) (h : CallT X hp2 (ck + 1) f args Kn) : @CallH X hp ck f args ⟨Kn⟩ :=
  CallT.pre (fun _ => Ents.go ht hle) h
theorem pu_litS (l : List Str) : Pu (.sl l.length 1 (rowAt (l.map V.str) 1)) := pu_rowAt fun v hv => by
  obtain ⟨s, -, rfl⟩ := List.mem_map.1 hv
  exact .str _
theorem noSlT3 {a b c : Int} : NoSl (.tup [.int .i64 a, .int .i64 b, .int .i64 c]) := .tup _ fun j v hv => by
  rcases j with _ | _ | _ | j <;> simp at hv <;> subst hv <;> exact .int _ _
theorem pu_litI (l : List Int) : Pu (.sl l.length 1 (rowAt (l.map (V.int .i64)) 1)) := pu_rowAt fun v hv => by
  obtain ⟨s, -, rfl⟩ := List.mem_map.1 hv
  exact .int _ _
theorem litI_ok {a : Int} : IsInts 1 (rowAt [.int .i64 a] 1) := ⟨by decide, fun i hi => by obtain rfl : i = 0 := (by omega); rfl⟩
/-- The fixed example's journal. -/
def exL : List Ev := [⟨1, [116, 121, 112, 101], [[106, 101, 116]], [1, 100000000], []⟩, ⟨2, [104, 111, 117, 115, 101], [[97]], [1, 500], []⟩, ⟨3, [102, 108, 105, 103, 104, 116], [[102], [106, 101, 116]], [1, 5], []⟩]
theorem exL_num : numE exL [97] = (50000000, 67, 0) := by kernel_rfl
theorem exL_ok : ∀ e ∈ exL, EvB e := by
  intro e he
  simp only [exL, List.mem_cons, List.not_mem_nil, or_false] at he
  rcases he with rfl | rfl | rfl
  · exact ⟨by decide, by decide, by decide⟩
  · exact ⟨by decide, by decide, by decide⟩
  · exact ⟨by decide, by decide, by decide⟩
theorem ex_sum : sN (gE 1 (rowAt [V.int .i64 50000000] 1)) 8 = 50000000 := by decide
theorem ex_out : OutOk (gE 1 (rowAt [V.int .i64 50000000] 1)) := by
  intro i hi
  have : i = 0 ∨ i = 1 ∨ i = 2 ∨ i = 3 ∨ i = 4 ∨ i = 5 ∨ i = 6 ∨ i = 7 := by omega
  rcases this with rfl | rfl | rfl | rfl | rfl | rfl | rfl | rfl <;> decide
/-- An outer function's call whose continuation is not looked at. -/
def ExtH (P : Program) (hp : Heap) (f : FuncId) (args : List V) [h : Hid (V → Prop)] : Prop := ExtT P hp f args h.val
theorem extT_hide {P : Program} {hp : Heap} {f : FuncId} {args : List V} {Kn : V → Prop} : ExtT P hp f args Kn = @ExtH P hp f args ⟨Kn⟩ := rfl
end Go.Fly.Off
end
section
/- The law on the fund: its contract, its states. -/
namespace Go.Fly.Off
open Go
/-- The entries that the law is handed. -/
structure PdOk (n : Nat) (get : Nat → List V) (o : Nat → Bool) (h a : Nat → Int) : Prop where
  len : n ≤ 9223372036854775807
  row : ∀ i, i < n → get i = [.bool (o i), .int .u8 (h i), .int .u16 (a i)] ∧ (0 ≤ h i ∧ h i ≤ 255) ∧ 0 ≤ a i ∧ a i ≤ 65535
theorem PdOk.pu {n : Nat} {get : Nat → List V} {o : Nat → Bool} {h a : Nat → Int} (q : PdOk n get o h a) : Pu (.sl n 3 get) ↔ True := iff_true_intro (pu_sl.2 fun i hi v hv => by
  rw [(q.row i hi).1] at hv
  simp only [List.mem_cons, List.not_mem_nil, or_false] at hv
  rcases hv with rfl | rfl | rfl
  · exact .bool _
  · exact .int _ _
  · exact .int _ _)
/-- A journal in a variable, and how many rounds. -/
structure JB where
  S : Heap
  l : List Ev
  i : Nat
structure JInv (box ln : Loc) (c : Nat) (b : JB) : Prop where
  at_ : JAt b.S box ln b.l c
  le : b.i ≤ 3
  eq : b.l = fbase.take (1 + b.i)
theorem dig_len (n : Int) : (dig n).length = 1 := rfl
theorem w1664 : (16 < 64 ∧ IntKind.i64.signed = true) = True := eq_true (by decide)
theorem evb_of {e : Ev} (h : eventE e = 0) : EvB e := by
  obtain ⟨k, -, h2, h3, -, h5, -⟩ := event_ok h
  refine ⟨?_, ?_, fun s hs => ?_⟩
  · rw [h2]; cases k <;> decide
  · rw [h3]; cases k <;> decide
  · have := name24 (h5 s hs); omega
theorem evb_lens {l : List Ev} (h : ∀ e ∈ l, EvB e) : ∀ e ∈ l, e.names.length ≤ 1000000 ∧ e.vals.length ≤ 1000000 := fun e he => ⟨(h e he).names, (h e he).vals⟩
/-- One more object above. -/
theorem JAt.upd {S : Heap} {box ln L : Loc} {o : AObj} {l : List Ev} {ck ck' : Nat} (h : JAt S box ln l ck) (hL : ck < L.1) (hL2 : L.1 ≤ ck') : JAt (updH S L o) box ln l ck' := by
  have h1 := h.lo1
  have h2 := h.lo2
  refine ⟨by rw [updH_ne (by rintro rfl; omega)]; exact h.atb, by rw [updH_ne (by rintro rfl; omega)]; exact h.atl, by omega, by omega, h.ne, fun q hq => ?_, h.len⟩
  rw [updH_ne (by rintro rfl; omega)]
  exact h.free q (by omega)
end Go.Fly.Off
end
section
/- Journals whose rows are written in any way; a contract whose arguments are weakened. -/
namespace Go.Fly.Off
open Go
/-- A row that stands for an event. -/
def RowOk (e : Ev) (r : List V) : Prop := ∃ g1 g2, r = [.int .i64 e.num, .str e.kind, .sl e.names.length 1 g1, .sl e.vals.length 1 g2, .str e.text] ∧ (∀ j, j < e.names.length → g1 j = [.str (el e.names j)]) ∧ ∀ j, j < e.vals.length → g2 j = [.int .i64 (el e.vals j)]
theorem rowOk_enc (e : Ev) : RowOk e (encEv e) := ⟨_, _, rfl, fun _ _ => rfl, fun _ _ => rfl⟩
theorem RowOk.cell {e : Ev} {r : List V} (h : RowOk e r) (j : Nat) (v : V) (hv : (encEv e)[j]? = some v) : ∃ u, r[j]? = some u ∧ VEnt u v := by
  obtain ⟨g1, g2, rfl, q1, q2⟩ := h
  rcases j with _ | _ | _ | _ | _ | j
  · exact ⟨_, rfl, by simp [encEv] at hv; rw [← hv]; exact VEnt.refl _⟩
  · exact ⟨_, rfl, by simp [encEv] at hv; rw [← hv]; exact VEnt.refl _⟩
  · exact ⟨_, rfl, by simp [encEv] at hv; rw [← hv]; exact VEnt.sl q1⟩
  · exact ⟨_, rfl, by simp [encEv] at hv; rw [← hv]; exact VEnt.sl q2⟩
  · exact ⟨_, rfl, by simp [encEv] at hv; rw [← hv]; exact VEnt.refl _⟩
  · simp [encEv] at hv
theorem RowOk.dec {e : Ev} {r : List V} (h : RowOk e r) : decEv r = e := by
  obtain ⟨g1, g2, rfl, q1, q2⟩ := h
  have e1 : decStrs (.sl e.names.length 1 g1) = e.names := by
    show (List.range e.names.length).map (fun i => strOf ((g1 i).getD 0 .top)) = e.names
    conv => rhs; rw [← range_el e.names]
    exact List.map_congr_left fun i hi => by rw [q1 i (List.mem_range.1 hi)]; rfl
  have e2 : decInts (.sl e.vals.length 1 g2) = e.vals := by
    show (List.range e.vals.length).map (fun i => intOf ((g2 i).getD 0 .top)) = e.vals
    conv => rhs; rw [← range_el e.vals]
    exact List.map_congr_left fun i hi => by rw [q2 i (List.mem_range.1 hi)]; rfl
  show Ev.mk e.num e.kind _ _ e.text = e
  rw [e1, e2]
/-- A journal in a variable, its rows written in any way, and nothing above. -/
structure JAtR (S : Heap) (box ln : Loc) (l : List Ev) (get : Nat → List V) (ck : Nat) : Prop where
  atb : S box = some (.cells [.msl ln 0 l.length])
  atl : S ln = some (.arr l.length 5 get)
  row : ∀ i, i < l.length → RowOk (el l i) (get i)
  lo1 : box.1 ≤ ck
  lo2 : ln.1 ≤ ck
  ne : ¬ box = ln
  free : ∀ q : Loc, ck < q.1 → S q = none
  len : l.length ≤ 1000
theorem JAt.rep {S : Heap} {box ln : Loc} {l : List Ev} {ck : Nat} (h : JAt S box ln l ck) : JAtR S box ln l (fun i => encEv (el l i)) ck := ⟨h.atb, h.atl, fun i hi => rowOk_enc _, h.lo1, h.lo2, h.ne, h.free, h.len⟩
theorem JAtR.mono {S : Heap} {box ln : Loc} {l : List Ev} {get : Nat → List V} {ck ck' : Nat} (h : JAtR S box ln l get ck) (hc : ck ≤ ck') : JAtR S box ln l get ck' :=
  ⟨h.atb, h.atl, h.row, Nat.le_trans h.lo1 hc, Nat.le_trans h.lo2 hc, h.ne, fun q hq => h.free q (by omega), h.len⟩
theorem JAtR.upd {S : Heap} {box ln L : Loc} {o : AObj} {l : List Ev} {get : Nat → List V} {ck ck' : Nat} (h : JAtR S box ln l get ck) (hL : ck < L.1) (hL2 : L.1 ≤ ck') : JAtR (updH S L o) box ln l get ck' := by
  have h1 := h.lo1
  have h2 := h.lo2
  refine ⟨by rw [updH_ne (by rintro rfl; omega)]; exact h.atb, by rw [updH_ne (by rintro rfl; omega)]; exact h.atl, h.row, by omega, by omega, h.ne, fun q hq => ?_, h.len⟩
  rw [updH_ne (by rintro rfl; omega)]
  exact h.free q (by omega)
/-- What stands behind some entries. -/
structure FB where
  S : Heap
  l : List Ev
  get : Nat → List V
  offers : List Of
  fund : Int
  told : List BE
  k : Nat
structure FBInv (box ln T : Loc) (n : Nat) (c : Nat) (b : FB) : Prop where
  at_ : JAtR b.S box ln b.l b.get c
  told : b.S T = some (.arr b.told.length 3 fun i => encBE (el b.told i))
  lo : T.1 ≤ c
  fi : FInv b.l b.offers b.fund b.k
  ti : TInv b.told b.offers b.fund b.k
  le : b.k ≤ n
  hom : ∀ y ∈ b.told, y.home.length ≤ 1000000
theorem hpLe_one {S S' : Heap} {ck : Nat} {a : Loc} {oa : AObj} (hf : ∀ q : Loc, ck < q.1 → S q = none) (hs : ∀ q : Loc, q.1 ≤ ck → ¬ q = a → S' q = S q) (ha : ∃ o, S' a = some o ∧ ObjLe o oa) : HpLe S' (updH S a oa) := by
  intro q o ho
  by_cases q1 : q = a
  · subst q1; rw [updH_same] at ho; cases ho; exact ha
  rw [updH_ne q1] at ho
  refine ⟨o, ?_, ObjLe.refl _⟩
  rw [hs q (by apply Classical.byContradiction; intro h; rw [hf q (by omega)] at ho; cases ho) q1]
  exact ho
theorem len_snoc {α : Type} (l : List α) (x : α) : (l ++ [x]).length = l.length + 1 := by rw [List.length_append]; rfl
end Go.Fly.Off
end
section
/- Two zones: contracts. -/
namespace Go.Fly.Off
open Go
def sLow : Str := [108, 111, 119]
def sHigh : Str := [104, 105, 103, 104]
/-- Two zones, the second one from a level on. -/
structure ZnOk (get : Nat → List V) (a : Int) : Prop where
  low : get 0 = [.str sLow, .int .i64 60, .int .i64 50, .int .i64 0]
  high : get 1 = [.str sHigh, .int .i64 a, .int .i64 80, .int .i64 0]
  bd : 61 ≤ a ∧ a ≤ 90
def znA : V → Int
  | .sl _ _ g => intOf ((g 1).getD 1 .top)
  | _ => 0
theorem ZnOk.at {get : Nat → List V} {a : Int} (h : ZnOk get a) : znA (.sl 2 4 get) = a := by
  show intOf ((get 1).getD 1 .top) = a
  rw [h.high]; rfl
/-- The zone of a level. -/
def znE (a lv : Int) : Int := if lv < 60 then -1 else if lv < a then 0 else 1
theorem ZnOk.pu {get : Nat → List V} {a : Int} (h : ZnOk get a) : Pu (.sl 2 4 get) ↔ True := iff_true_intro (pu_sl.2 fun i hi v hv => by
  have : i = 0 ∨ i = 1 := by omega
  rcases this with rfl | rfl
  · rw [h.low] at hv
    simp only [List.mem_cons, List.not_mem_nil, or_false] at hv
    rcases hv with rfl | rfl | rfl | rfl
    · exact .str _
    · exact .int _ _
    · exact .int _ _
    · exact .int _ _
  · rw [h.high] at hv
    simp only [List.mem_cons, List.not_mem_nil, or_false] at hv
    rcases hv with rfl | rfl | rfl | rfl
    · exact .str _
    · exact .int _ _
    · exact .int _ _
    · exact .int _ _)
theorem znE_3 (a lv : Int) : znE a lv = -1 ∨ znE a lv = 0 ∨ znE a lv = 1 := by unfold znE; split <;> (try split) <;> simp
def znEs : Nat → Array MapEntry
  | 0 => #[]
  | 1 => #[⟨.string ⟨sLow.toArray⟩, .bool true, 0⟩]
  | _ => #[⟨.string ⟨sLow.toArray⟩, .bool true, 0⟩, ⟨.string ⟨sHigh.toArray⟩, .bool true, 1⟩]
def znLast (a : Int) : Nat → Int
  | 0 => -1
  | 1 => 60
  | _ => a
theorem zn_find0 : Instr.findNow .string (.string ⟨sLow.toArray⟩) (znEs 0).toList 0 = some none := findNow_none (s := sLow) (fun e he => by simp [znEs] at he) 0
theorem zn_find1 : Instr.findNow .string (.string ⟨sHigh.toArray⟩) (znEs 1).toList 0 = some none := findNow_none (s := sHigh) (fun e he => by
  simp [znEs] at he
  exact ⟨sLow, by rw [he], by decide⟩) 0
theorem low_name : nameB sLow = true := by decide
theorem high_name : nameB sHigh = true := by decide
def lvl1C : Contract := fun _ args => match args with
  | [.int .i64 n] => ⟨0 ≤ n ∧ n ≤ 10000000000000, .int .i64 (levelE n), none⟩
  | _ => ⟨False, .top, none⟩
def levelsC : Contract := fun _ args => ⟨∃ s f, args = [homeV s f] ∧ nameB s = true ∧ OutOk f, .tup [.agg [.int .i64 (levelE (hSum (arg args 0))), .int .i64 (levelE (hSum (arg args 0)))], .int .i64 0], none⟩
def chkZonesC : Contract := fun _ args => ⟨∃ get a, args = [.sl 2 4 get] ∧ ZnOk get a, .int .i64 0, none⟩
def zoneC : Contract := fun _ args => ⟨∃ get a n, args = [.sl 2 4 get, .int .i64 n] ∧ ZnOk get a ∧ 0 ≤ n ∧ n ≤ 10000000000000, .int .i64 (znE (znA (arg args 0)) (levelE (intOf (arg args 1)))), none⟩
def zoneOfC : Contract := fun _ args => ⟨∃ get a n, args = [.sl 2 4 get, .int .i64 n] ∧ ZnOk get a ∧ 0 ≤ n ∧ n ≤ 10000000000000,
  .tup [.int .i64 (if znE (znA (arg args 0)) (levelE (intOf (arg args 1))) < 0 then 0 else znE (znA (arg args 0)) (levelE (intOf (arg args 1)))), .int .i64 (if znE (znA (arg args 0)) (levelE (intOf (arg args 1))) < 0 then 7 else 0)], none⟩
def eligHC : Contract := fun _ args => ⟨∃ s f get a, args = [homeV s f, .sl 2 4 get] ∧ ZnOk get a ∧ OutOk f, .bool (decide (0 ≤ znE (znA (arg args 1)) (levelE (hSum (arg args 0)))) && decide (0 < hSum (arg args 0))), none⟩
def eligibleHC : Contract := fun _ args => ⟨∃ s f get a, args = [.sl 2 4 get, homeV s f] ∧ ZnOk get a ∧ OutOk f ∧ nameB s = true, .tup [.bool (decide (0 ≤ znE (znA (arg args 0)) (levelE (hSum (arg args 1)))) && decide (0 < hSum (arg args 1))), .int .i64 0], none⟩
attribute [go_sem] lvl1C levelsC chkZonesC zoneC zoneOfC eligHC eligibleHC
end Go.Fly.Off
end
section
/- The office: chains that are asked, checked; who is eligible; what was published. -/
namespace Go.Fly.Off
open Go
def chainE (l : List Ev) (s : Str) : List It × Int :=
  if askE l 104 s ≠ 0 then ([], askE l 104 s) else
    let r := (replayed levelE l).1.now
    (r.chain (r.house s).share, 0)
def chainQC : Contract := fun _ args => ⟨∃ l s, args = [encRows 5 encEv l, .str s] ∧ l.length ≤ 1000000 ∧ (∀ e ∈ l, EvB e),
  .tup [encRows 2 encIt (chainE (decRows decEv (arg args 0)) (strOf (arg args 1))).1, .int .i64 (chainE (decRows decEv (arg args 0)) (strOf (arg args 1))).2], none⟩
/-- The first place where two chains differ. -/
def diffAt (a b : List It) : Nat → Nat → Option Nat
  | i, 0 => none
  | i, n + 1 => if a.length ≤ i ∨ b.length ≤ i ∨ el a i ≠ el b i then some i else diffAt a b (i + 1) n
def chkChE (l : List Ev) (s : Str) (c : List It) (lv : Int) : Int × Int :=
  if askE l 104 s ≠ 0 then (0, askE l 104 s) else
    let r := (replayed levelE l).1.now
    let right := r.chain (r.house s).share
    match diffAt c right 0 (max c.length right.length) with
    | some i => (i, 19)
    | none => (right.length, err (!decide (levelE (sumOf right) = lv)) 24)
def checkQC : Contract := fun _ args => ⟨∃ l s c lv, args = [encRows 5 encEv l, .str s, encRows 2 encIt c, .int .i64 lv] ∧ l.length ≤ 1000000 ∧ (∀ e ∈ l, EvB e) ∧ c.length ≤ 1000000,
  .tup [.int .i64 (chkChE (decRows decEv (arg args 0)) (strOf (arg args 1)) (decRows decIt (arg args 2)) (intOf (arg args 3))).1, .int .i64 (chkChE (decRows decEv (arg args 0)) (strOf (arg args 1)) (decRows decIt (arg args 2)) (intOf (arg args 3))).2], none⟩
/-- Who is eligible. -/
def Reg.eligible (r : Reg) : List Str := (r.namesOf 104).filter fun s => r.isLoud s && !r.hasOffer s
def elig1C : Contract := fun _ args => ⟨∃ r s, args = [.str s, .cptr [.cptr (encReg r)]] ∧ RL r ∧ LastOk r ∧ s ∈ r.namesOf 104, .bool ((decReg (cellsOf ((cellsOf (arg args 1)).getD 0 .top))).isLoud (strOf (arg args 0)) && !(decReg (cellsOf ((cellsOf (arg args 1)).getD 0 .top))).hasOffer (strOf (arg args 0))), none⟩
def keptStrC (k : FuncId) : Contract := fun _ args => ⟨∃ l r, args = [encStrs l, .fn (.func k) [] [.cptr [.cptr (encReg r)]]] ∧ l.length ≤ 1000000 ∧ RL r ∧ LastOk r ∧ ∀ s ∈ l, s ∈ r.namesOf 104,
  encStrs ((decStrs (arg args 0)).filter fun s => (match arg args 1 with | .fn _ _ [.cptr [.cptr c]] => decReg c | _ => {}).isLoud s && !(match arg args 1 with | .fn _ _ [.cptr [.cptr c]] => decReg c | _ => {}).hasOffer s), none⟩
def eligRC : Contract := fun _ args => ⟨∃ r, args = [.cptr (encReg r)] ∧ RL r ∧ LastOk r, encStrs (decReg (cellsOf (arg args 0))).eligible, none⟩
def eligE (l : List Ev) : List Str × Int := if (replayed levelE l).2.2 ≠ 0 then ([], (replayed levelE l).2.2) else ((replayed levelE l).1.now.eligible, 0)
def eligQC : Contract := fun _ args => ⟨∃ l, args = [encRows 5 encEv l] ∧ l.length ≤ 1000000 ∧ (∀ e ∈ l, EvB e), .tup [encStrs (eligE (decRows decEv (arg args 0))).1, .int .i64 (eligE (decRows decEv (arg args 0))).2], none⟩
/-- What was published. -/
def publE (l : List Ev) (m s : Str) : Int × Int :=
  if askE l 109 m ≠ 0 then (0, askE l 109 m) else
    let r := (replayed levelE l).1.now
    let i := idxE (r.namesOf 104) s
    let c := firstL [err (decide (i < 0)) 10, err (decide (((r.chart m).levels.length : Int) ≤ i)) 7]
    if c ≠ 0 then (0, c) else (el (r.chart m).levels i.toNat, 0)
def publQC : Contract := fun _ args => ⟨∃ l m s, args = [encRows 5 encEv l, .str m, .str s] ∧ l.length ≤ 1000000 ∧ (∀ e ∈ l, EvB e),
  .tup [.int .i64 (publE (decRows decEv (arg args 0)) (strOf (arg args 1)) (strOf (arg args 2))).1, .int .i64 (publE (decRows decEv (arg args 0)) (strOf (arg args 1)) (strOf (arg args 2))).2], none⟩
attribute [go_sem] chainQC checkQC elig1C keptStrC eligRC eligQC publQC
theorem diff_none {a b : List It} : ∀ {n i : Nat}, diffAt a b i n = none ↔ ∀ j, i ≤ j → j < i + n → j < a.length ∧ j < b.length ∧ el a j = el b j
  | 0, i => by simp [diffAt]; omega
  | n + 1, i => by
    unfold diffAt
    split
    · rename_i h
      constructor
      · intro q; cases q
      · intro q
        have := q i (Nat.le_refl _) (by omega)
        rcases h with h | h | h
        · omega
        · omega
        · exact absurd this.2.2 h
    · rename_i h
      rw [diff_none]
      constructor
      · intro q j h1 h2
        by_cases e : j = i
        · subst e
          refine ⟨?_, ?_, ?_⟩
          · apply Classical.byContradiction; intro z; exact h (.inl (by omega))
          · apply Classical.byContradiction; intro z; exact h (.inr (.inl (by omega)))
          · apply Classical.byContradiction; intro z; exact h (.inr (.inr z))
        · exact q j (by omega) (by omega)
      · intro q j h1 h2
        exact q j (by omega) (by omega)
theorem diff_same (a : List It) (n : Nat) (h : n ≤ a.length) : diffAt a a 0 n = none := diff_none.2 fun j _ h2 => ⟨by omega, by omega, rfl⟩
theorem diff_step {a b : List It} {i n : Nat} (h : i < n) : diffAt a b i (n - i) = if a.length ≤ i ∨ b.length ≤ i ∨ el a i ≠ el b i then some i else diffAt a b (i + 1) (n - (i + 1)) := by
  rw [show n - i = (n - (i + 1)) + 1 by omega]; rfl
end Go.Fly.Off
end
section
/- The number of a house: the journal of its flights, and what it results in. -/
namespace Go.Fly.Off
open Go
def jT (i : Nat) : Str := [116, UInt8.ofNat (48 + i)]
def jF (i : Nat) : Str := [102, UInt8.ofNat (48 + i)]
def sA : Str := [97]
def evT (i : Nat) (e : Int) : Ev := ⟨(i : Int) + 2, Kd.str .type, [jT i], [1, e], []⟩
def evF (n i : Nat) : Ev := ⟨((n + 1 + i : Nat) : Int) + 1, Kd.str .flight, [jF i, jT i], [1, (i : Int)], []⟩
def evH (share : Int) : Ev := ⟨1, Kd.str .house, [sA], [1, share], []⟩
def evP (n : Nat) : Ev := ⟨((n + 1 + n : Nat) : Int) + 1, Kd.str .publish, [[109]], [2], []⟩
/-- The journal after so many types, after so many flights, at last. -/
def jou1 (es : List Int) (share : Int) : Nat → List Ev
  | 0 => [evH share]
  | i + 1 => jou1 es share i ++ [evT i (el es i)]
def jou2 (es : List Int) (share : Int) : Nat → List Ev
  | 0 => jou1 es share es.length
  | i + 1 => jou2 es share i ++ [evF es.length i]
def jou (es : List Int) (share : Int) : List Ev := jou2 es share es.length ++ [evP es.length]
theorem jou1_len (es : List Int) (share : Int) : ∀ i, (jou1 es share i).length = 1 + i
  | 0 => rfl
  | i + 1 => by
    show (jou1 es share i ++ [_]).length = _
    rw [len_snoc, jou1_len es share i]; omega
theorem jou2_len (es : List Int) (share : Int) : ∀ i, (jou2 es share i).length = 1 + es.length + i
  | 0 => jou1_len es share _
  | i + 1 => by
    show (jou2 es share i ++ [_]).length = _
    rw [len_snoc, jou2_len es share i]; omega
theorem jou_len (es : List Int) (share : Int) : (jou es share).length = 2 + 2 * es.length := by
  unfold jou
  rw [len_snoc, jou2_len]; omega
def tys (es : List Int) (i : Nat) : List Ty := (List.range i).map fun j => ⟨jT j, el es j, 1000⟩
def fls (i : Nat) : List Fl := (List.range i).map fun j => ⟨jF j, jT j, 1, (j : Int), -1⟩
theorem tys_succ (es : List Int) (i : Nat) : tys es (i + 1) = tys es i ++ [⟨jT i, el es i, 1000⟩] := by unfold tys; rw [List.range_succ, List.map_append]; rfl
theorem fls_succ (i : Nat) : fls (i + 1) = fls i ++ [⟨jF i, jT i, 1, (i : Int), -1⟩] := by unfold fls; rw [List.range_succ, List.map_append]; rfl
def reg1 (es : List Int) (share : Int) (i k : Nat) : Reg := { day := 1, types := tys es i, houses := [⟨sA, share⟩], flights := fls k }
theorem jT_inj : ∀ i, i < 9 → ∀ j, j < 9 → jT i = jT j → i = j := by decide
theorem jF_inj : ∀ i, i < 9 → ∀ j, j < 9 → jF i = jF j → i = j := by decide
theorem jT_name : ∀ i, i < 9 → nameB (jT i) = true := by decide
theorem jF_name : ∀ i, i < 9 → nameB (jF i) = true := by decide
/-- The energies and the share. -/
structure NumOk (es : List Int) (share : Int) : Prop where
  len : es.length ≤ 8
  bd : ∀ e ∈ es, 0 ≤ e ∧ e ≤ 100000000
  share : 0 ≤ share ∧ share ≤ 1000
theorem evT_ok {es : List Int} {share : Int} (h : NumOk es share) {i : Nat} (hi : i < es.length) : eventE (evT i (el es i)) = 0 := by
  have hb := h.bd _ (el_mem hi)
  have hl := h.len
  have h1 : rng ((i : Int) + 2) 1 1000 = 0 := rng_zero.2 (by omega)
  have h2 : rng (el es i) 0 999999999 = 0 := rng_zero.2 (by omega)
  have h3 : rng 1 0 999999999 = 0 := by decide
  have h4 := jT_name i (by omega)
  unfold eventE evT
  simp only [kindOf_str]
  simp [firstL, h1, h2, h3, h4, err, Kd.letters, Kd.values]
theorem evF_ok {n i : Nat} (hn : n ≤ 8) (hi : i < n) : eventE (evF n i) = 0 := by
  have h1 : rng (((n + 1 + i : Nat) : Int) + 1) 1 1000 = 0 := rng_zero.2 (by omega)
  have h2 : rng (i : Int) 0 999999999 = 0 := rng_zero.2 (by omega)
  have h3 : rng 1 0 999999999 = 0 := by decide
  have h4 := jT_name i (by omega)
  have h5 := jF_name i (by omega)
  unfold eventE evF
  simp only [kindOf_str, h1]
  simp [firstL, h2, h3, h4, h5, err, Kd.letters, Kd.values]
theorem evH_ok {es : List Int} {share : Int} (h : NumOk es share) : eventE (evH share) = 0 := by
  have hs := h.share
  have h2 : rng share 0 999999999 = 0 := rng_zero.2 (by omega)
  have h3 : rng 1 0 999999999 = 0 := by decide
  have h4 : rng 1 1 1000 = 0 := by decide
  have h5 : nameB sA = true := by decide
  unfold eventE evH
  simp only [kindOf_str]
  simp [firstL, h2, h3, h4, h5, err, Kd.letters, Kd.values]
theorem evP_ok {n : Nat} (hn : n ≤ 8) : eventE (evP n) = 0 := by
  have h1 : rng (((n + 1 + n : Nat) : Int) + 1) 1 1000 = 0 := rng_zero.2 (by omega)
  have h3 : rng 2 0 999999999 = 0 := by decide
  have h5 : nameB [109] = true := by decide
  unfold eventE evP
  simp only [kindOf_str, h1]
  simp [firstL, h3, h5, err, Kd.letters, Kd.values]
theorem jou_0 {es : List Int} {share : Int} (h : NumOk es share) : replayed levelE (jou1 es share 0) = (⟨jou1 es share 0, jou1 es share 0, reg1 es share 0 0⟩, 0, 0) := by
  have hs := h.share
  have h1 : acceptsE levelE [] (evH share) = 0 := by
    rw [accepts_of (h := {}) (by decide) rfl (evH_ok h)]
    have h2 : rng share 0 1000 = 0 := rng_zero.2 hs
    have h3 : knownE {} (evH share) .house = 0 := by unfold evH; rfl
    unfold acceptE
    have e5 : kindOf (evH share).kind = some .house := kindOf_str .house
    rw [e5]
    simp only [h3]
    have e1 : (evH share).num = 1 := rfl
    have e2 : (evH share).vl 0 = 1 := rfl
    have e3 : (evH share).vl 1 = share := rfl
    rw [e1, e2]
    rw [if_neg (by simp), if_neg (by decide), if_neg (by simp)]
    unfold checkK
    rw [e3]
    simp [firstL, h2, err]
  have := replayed_snoc (lv := levelE) (l := []) (h := {}) (e := evH share) (by decide) rfl h1
  show replayed levelE ([] ++ [evH share]) = _
  rw [this]
  unfold addE
  rw [if_neg (by unfold evH; rw [kindOf_str]; decide)]
  rfl
theorem mem_tys {es : List Int} {i j : Nat} (hj : j < i) : jT j ∈ (tys es i).map (·.name) := by
  unfold tys
  rw [List.map_map]
  exact List.mem_map.2 ⟨j, List.mem_range.2 hj, rfl⟩
theorem not_mem_tys {es : List Int} {i : Nat} (hi : i < 9) : jT i ∉ (tys es i).map (·.name) := fun q => by
  unfold tys at q
  rw [List.map_map] at q
  obtain ⟨j, hj, e⟩ := List.mem_map.1 q
  have hj := List.mem_range.1 hj
  have := jT_inj j (by omega) i hi e
  omega
theorem not_mem_fls {i : Nat} (hi : i < 9) : jF i ∉ (fls i).map (·.name) := fun q => by
  unfold fls at q
  rw [List.map_map] at q
  obtain ⟨j, hj, e⟩ := List.mem_map.1 q
  have hj := List.mem_range.1 hj
  have := jF_inj j (by omega) i hi e
  omega
theorem jou_1 {es : List Int} {share : Int} (h : NumOk es share) : ∀ i, i ≤ es.length → replayed levelE (jou1 es share i) = (⟨jou1 es share i, jou1 es share i, reg1 es share i 0⟩, 0, 0)
  | 0, _ => jou_0 h
  | i + 1, hi => by
    have ih := jou_1 h i (by omega)
    have hl := h.len
    have hlen := jou1_len es share i
    have hb := h.bd _ (el_mem (show i < es.length by omega))
    have hk : knownE (reg1 es share i 0) (evT i (el es i)) .type = 0 := by
      unfold knownE knownL
      have a0 : freshAt (Kd.letters .type) 0 = true := by decide
      have t0 : thereAt (reg1 es share i 0) (evT i (el es i)) (Kd.letters .type) 0 = false := by
        unfold thereAt
        exact decide_eq_false (not_mem_tys (by omega))
      have hr : List.range (Kd.letters .type).length = [0] := by decide
      rw [hr]
      simp [a0, t0]
    have hz : acceptsE levelE (jou1 es share i) (evT i (el es i)) = 0 := by
      rw [accepts_of (by omega) ih (evT_ok h (by omega))]
      have h2 : rng (el es i) 0 1000000000 = 0 := rng_zero.2 (by omega)
      unfold acceptE
      have e5 : kindOf (evT i (el es i)).kind = some .type := kindOf_str .type
      have e1 : (evT i (el es i)).num = (i : Int) + 2 := rfl
      have e2 : (evT i (el es i)).vl 0 = 1 := rfl
      have e3 : (evT i (el es i)).vl 1 = el es i := rfl
      rw [e5, e1, e2]
      simp only [hk]
      rw [if_neg (by rw [hlen]; omega), if_neg (by show ¬ (1 : Int) < 1; decide), if_neg (by simp)]
      unfold checkK
      have e6 : (reg1 es share i 0).types.length = i := by show (tys es i).length = i; unfold tys; simp
      rw [e3, e6]
      have e7 : ¬ i = 8 := by omega
      simp [firstL, h2, err, e7]
    show replayed levelE (jou1 es share i ++ [evT i (el es i)]) = _
    rw [replayed_snoc (by omega) ih hz]
    unfold addE
    rw [if_neg (by unfold evT; rw [kindOf_str]; decide)]
    have : applyE levelE (reg1 es share i 0) (evT i (el es i)) = reg1 es share (i + 1) 0 := by
      unfold applyE
      simp only [show kindOf (evT i (el es i)).kind = some .type from kindOf_str .type]
      unfold reg1
      rw [tys_succ]
      rfl
    simp only [this]
    rfl
theorem jou_2 {es : List Int} {share : Int} (h : NumOk es share) : ∀ i, i ≤ es.length → replayed levelE (jou2 es share i) = (⟨jou2 es share i, jou2 es share i, reg1 es share es.length i⟩, 0, 0)
  | 0, _ => jou_1 h _ (Nat.le_refl _)
  | i + 1, hi => by
    have ih := jou_2 h i (by omega)
    have hl := h.len
    have hlen := jou2_len es share i
    have hk : knownE (reg1 es share es.length i) (evF es.length i) .flight = 0 := by
      unfold knownE knownL
      have a0 : freshAt (Kd.letters .flight) 0 = true := by decide
      have a1 : freshAt (Kd.letters .flight) 1 = false := by decide
      have t0 : thereAt (reg1 es share es.length i) (evF es.length i) (Kd.letters .flight) 0 = false := by
        unfold thereAt
        exact decide_eq_false (not_mem_fls (by omega))
      have t1 : thereAt (reg1 es share es.length i) (evF es.length i) (Kd.letters .flight) 1 = true := by
        unfold thereAt
        exact decide_eq_true (mem_tys (es := es) (show i < es.length by omega))
      have hr : List.range (Kd.letters .flight).length = [0, 1] := by decide
      rw [hr]
      simp [a0, a1, t0, t1]
    have hz : acceptsE levelE (jou2 es share i) (evF es.length i) = 0 := by
      rw [accepts_of (by omega) ih (evF_ok hl (by omega))]
      have h2 : rng (i : Int) 0 1439 = 0 := rng_zero.2 (by omega)
      unfold acceptE
      have e5 : kindOf (evF es.length i).kind = some .flight := kindOf_str .flight
      have e1 : (evF es.length i).num = ((es.length + 1 + i : Nat) : Int) + 1 := rfl
      have e2 : (evF es.length i).vl 0 = 1 := rfl
      have e3 : (evF es.length i).vl 1 = (i : Int) := rfl
      rw [e5, e1, e2]
      simp only [hk]
      rw [if_neg (by rw [hlen]; omega), if_neg (by show ¬ (1 : Int) < 1; decide), if_neg (by simp)]
      unfold checkK
      have e6 : (reg1 es share es.length i).flights.length = i := by show (fls i).length = i; unfold fls; simp
      rw [e3, e6]
      have e7 : ¬ i = 64 := by omega
      simp [firstL, h2, err, e7]
    show replayed levelE (jou2 es share i ++ [evF es.length i]) = _
    rw [replayed_snoc (by omega) ih hz]
    unfold addE
    rw [if_neg (by unfold evF; rw [kindOf_str]; decide)]
    have : applyE levelE (reg1 es share es.length i) (evF es.length i) = reg1 es share es.length (i + 1) := by
      unfold applyE
      simp only [show kindOf (evF es.length i).kind = some .flight from kindOf_str .flight]
      unfold reg1
      rw [fls_succ]
      rfl
    simp only [this]
    rfl
end Go.Fly.Off
end
section
/- The number of a house: what the questions answer. -/
namespace Go.Fly.Off
open Go
def thE (es : List Int) (share : Int) (i : Nat) : Int := (el es i * share).tdiv 1000
def chainN (es : List Int) (share : Int) : List It := (List.range es.length).map fun i => (jF i, thE es share i)
def sumN' (es : List Int) (share : Int) : Int := sumOf (chainN es share)
def regN (es : List Int) (share : Int) : Reg := { day := 2, types := tys es es.length, houses := [⟨sA, share⟩], flights := fls es.length, maps := [⟨[109], 2, [levelE (sumN' es share)]⟩] }
theorem tys_names (es : List Int) (i : Nat) : (tys es i).map (·.name) = (List.range i).map jT := by unfold tys; rw [List.map_map]; rfl
theorem el_range {α : Type} [Inhabited α] (f : Nat → α) {n i : Nat} (h : i < n) : el ((List.range n).map f) i = f i := by simp [el, h]
theorem place_tys {es : List Int} {n i : Nat} (hn : n ≤ 8) (hi : i < n) : place ((tys es n).map (·.name)) (jT i) = i := by
  rw [tys_names]
  refine place_of (by simp; exact hi) (el_range jT hi) fun j hj => ?_
  rw [el_range jT (by omega)]
  exact fun e => by have := jT_inj j (by omega) i (by omega) e; omega
theorem thE_bd {es : List Int} {share : Int} (h : NumOk es share) {i : Nat} (hi : i < es.length) : 0 ≤ thE es share i ∧ thE es share i ≤ 100000000 := by
  have hb := h.bd _ (el_mem hi)
  have hs := h.share
  have h1 : 0 ≤ el es i * share := Int.mul_nonneg hb.1 hs.1
  have h2 : el es i * share ≤ 100000000 * 1000 := Int.le_trans (Int.mul_le_mul hb.2 hs.2 hs.1 (by decide)) (by decide)
  unfold thE
  rw [Int.tdiv_eq_ediv_of_nonneg h1]
  omega
theorem energy_th {a b : Int} (ha : 0 ≤ a) (hb : 0 ≤ b) : (a * 1000 * b).tdiv 1000000 = (a * b).tdiv 1000 := by
  have h1 : 0 ≤ a * b := Int.mul_nonneg ha hb
  have h2 : a * 1000 * b = 1000 * (a * b) := by rw [Int.mul_comm a 1000, Int.mul_assoc]
  rw [h2, Int.tdiv_eq_ediv_of_nonneg h1, Int.tdiv_eq_ediv_of_nonneg (by omega)]
  omega
theorem chain_reg {es : List Int} {share : Int} (h : NumOk es share) (r : Reg) (ht : r.types = tys es es.length) (hf : r.flights = fls es.length) : r.chain share = chainN es share := by
  unfold Reg.chain chainN
  rw [hf]
  unfold fls
  rw [List.map_map]
  refine List.map_congr_left fun i hi => ?_
  have hi := List.mem_range.1 hi
  have hb := h.bd _ (el_mem hi)
  have hl := h.len
  have hp : place (r.namesOf 116) (jT i) = i := by
    show place (r.types.map (·.name)) (jT i) = i
    rw [ht]
    exact place_tys hl hi
  have e : r.typ (jT i) = ⟨jT i, el es i, 1000⟩ := by
    unfold Reg.typ
    rw [hp, ht]
    unfold tys
    rw [el_range _ hi]
  show (jF i, r.energyAt share ⟨jF i, jT i, 1, (i : Int), -1⟩) = (jF i, thE es share i)
  unfold Reg.energyAt
  show (jF i, ((r.typ (jT i)).energy * (r.typ (jT i)).factor * share).tdiv 1000000) = _
  rw [e]
  show (jF i, (el es i * 1000 * share).tdiv 1000000) = _
  rw [energy_th hb.1 h.share.1]
  rfl
theorem jou_rep {es : List Int} {share : Int} (h : NumOk es share) : replayed levelE (jou es share) = (⟨jou es share, jou es share, regN es share⟩, 0, 0) := by
  have ih := jou_2 h es.length (Nat.le_refl _)
  have hl := h.len
  have hlen := jou2_len es share es.length
  have hk : knownE (reg1 es share es.length es.length) (evP es.length) .publish = 0 := by
    unfold knownE knownL
    have a0 : freshAt (Kd.letters .publish) 0 = true := by decide
    have t0 : thereAt (reg1 es share es.length es.length) (evP es.length) (Kd.letters .publish) 0 = false := by
      unfold thereAt
      exact decide_eq_false (by show ¬ _ ∈ ([] : List Str); simp)
    have hr : List.range (Kd.letters .publish).length = [0] := by decide
    rw [hr]
    simp [a0, t0]
  have hz : acceptsE levelE (jou2 es share es.length) (evP es.length) = 0 := by
    rw [accepts_of (by omega) ih (evP_ok hl)]
    unfold acceptE
    have e5 : kindOf (evP es.length).kind = some .publish := kindOf_str .publish
    have e1 : (evP es.length).num = ((es.length + 1 + es.length : Nat) : Int) + 1 := rfl
    have e2 : (evP es.length).vl 0 = 2 := rfl
    rw [e5, e1, e2]
    simp only [hk]
    rw [if_neg (by rw [hlen]; omega), if_neg (by show ¬ (2 : Int) < 1; decide), if_neg (by simp)]
    rfl
  show replayed levelE (jou2 es share es.length ++ [evP es.length]) = _
  rw [replayed_snoc (by omega) ih hz]
  unfold addE
  rw [if_neg (by unfold evP; rw [kindOf_str]; decide)]
  have hch := chain_reg h (reg1 es share es.length es.length) rfl rfl
  have : applyE levelE (reg1 es share es.length es.length) (evP es.length) = regN es share := by
    unfold applyE
    simp only [show kindOf (evP es.length).kind = some .publish from kindOf_str .publish]
    unfold applyK
    have e : (reg1 es share es.length es.length).houses.map ((reg1 es share es.length es.length).level levelE) = [levelE (sumN' es share)] := by
      show [(reg1 es share es.length es.length).level levelE ⟨sA, share⟩] = _
      unfold Reg.level sumN'
      rw [hch]
    simp only [e]
    rfl
  simp only [this]
  rfl
theorem jou_evb {es : List Int} {share : Int} (h : NumOk es share) : ∀ e ∈ jou es share, EvB e := fun e he => by
  have h1 := (replayed_ok (lv := levelE) (jou es share)).1.cnt
  rw [jou_rep h] at h1
  obtain ⟨i, hi, rfl⟩ := List.mem_iff_getElem.1 he
  obtain ⟨k', hk⟩ := h1 i hi
  have := hk.ev
  rw [el_get _ hi] at this
  exact evb_of this
theorem jou_ask {es : List Int} {share : Int} (h : NumOk es share) : askE (jou es share) 104 sA = 0 := by
  unfold askE
  rw [jou_rep h]
  rfl
theorem jou_askM {es : List Int} {share : Int} (h : NumOk es share) : askE (jou es share) 109 [109] = 0 := by
  unfold askE
  rw [jou_rep h]
  rfl
theorem regN_chain {es : List Int} {share : Int} (h : NumOk es share) : (regN es share).chain ((regN es share).house sA).share = chainN es share := by
  have : (regN es share).house sA = ⟨sA, share⟩ := rfl
  rw [this]
  exact chain_reg h _ rfl rfl
theorem jou_num {es : List Int} {share : Int} (h : NumOk es share) : numE (jou es share) sA = (sumN' es share, levelE (sumN' es share), 0) := by
  unfold numE
  rw [if_neg (fun q => q (jou_ask h))]
  simp only [jou_rep h, regN_chain h]
  rfl
theorem jou_chain {es : List Int} {share : Int} (h : NumOk es share) : chainE (jou es share) sA = (chainN es share, 0) := by
  unfold chainE
  rw [if_neg (fun q => q (jou_ask h))]
  simp only [jou_rep h, regN_chain h]
theorem jou_check {es : List Int} {share : Int} (h : NumOk es share) : chkChE (jou es share) sA (chainN es share) (levelE (sumN' es share)) = ((es.length : Int), 0) := by
  unfold chkChE
  rw [if_neg (fun q => q (jou_ask h))]
  simp only [jou_rep h, regN_chain h]
  rw [diff_same _ _ (by omega)]
  have e1 : (chainN es share).length = es.length := by unfold chainN; simp
  have e2 : levelE (sumOf (chainN es share)) = levelE (sumN' es share) := rfl
  simp [e1, e2, err]
theorem jou_elig {es : List Int} {share : Int} (h : NumOk es share) : eligE (jou es share) = ((if 60 ≤ levelE (sumN' es share) then [sA] else []), 0) := by
  unfold eligE
  rw [jou_rep h]
  rw [if_neg (by simp)]
  have e1 : (regN es share).namesOf 104 = [sA] := rfl
  have e2 : (regN es share).hasOffer sA = false := rfl
  have e3 : (regN es share).isLoud sA = decide (60 ≤ levelE (sumN' es share)) := rfl
  unfold Reg.eligible
  simp only [e1, List.filter_cons, List.filter_nil, e2, e3]
  by_cases q : 60 ≤ levelE (sumN' es share) <;> simp [q]
theorem jou_publ {es : List Int} {share : Int} (h : NumOk es share) : publE (jou es share) [109] sA = (levelE (sumN' es share), 0) := by
  unfold publE
  rw [if_neg (fun q => q (jou_askM h))]
  simp only [jou_rep h]
  have e1 : (regN es share).namesOf 104 = [sA] := rfl
  have e2 : (regN es share).chart [109] = ⟨[109], 2, [levelE (sumN' es share)]⟩ := rfl
  have e3 : idxE [sA] sA = 0 := by decide
  rw [e1, e2, e3]
  rfl
/-- A sum by its numbers. -/
theorem sumOf_app (a b : List It) : sumOf (a ++ b) = sumOf a + sumOf b := by
  have key : ∀ (l : List It) (x : Int), l.foldl (fun a x => a + x.2) x = x + sumOf l := by
    intro l
    induction l with
    | nil => intro x; show x = x + 0; omega
    | cons y l ih =>
      intro x
      show l.foldl (fun a x => a + x.2) (x + y.2) = x + l.foldl (fun a x => a + x.2) (0 + y.2)
      rw [ih, ih]; omega
  show (a ++ b).foldl _ 0 = _
  rw [List.foldl_append, key]
  rfl
theorem sumOf_map (l : List It) : sumOf l = (l.map (·.2)).sum := by
  induction l with
  | nil => rfl
  | cons y l ih =>
    have := sumOf_app [y] l
    rw [List.singleton_append] at this
    rw [this, ih, List.map_cons, List.sum_cons]
    show (0 + y.2) + _ = _
    omega
theorem sumN_sum (es : List Int) (share : Int) : sumN' es share = (es.map fun e => (e * share).tdiv 1000).sum := by
  unfold sumN'
  rw [sumOf_map]
  unfold chainN
  rw [List.map_map]
  congr 1
  apply List.ext_getElem
  · simp
  · intro i h1 h2
    have h3 : i < es.length := by simpa using h1
    simp [thE, el, h3]
theorem sumN_turn (es : List Int) (share : Int) (k : Nat) : sumN' (es.drop k ++ es.take k) share = sumN' es share := by
  rw [sumN_sum, sumN_sum]
  conv => rhs; rw [← List.take_append_drop k es]
  simp only [List.map_append, List.sum_append]
  omega
theorem numOk_turn {es : List Int} {share : Int} (h : NumOk es share) (k : Nat) : NumOk (es.drop k ++ es.take k) share := by
  refine ⟨?_, fun e he => h.bd e ?_, h.share⟩
  · rw [List.length_append, List.length_drop, List.length_take]; have := h.len; omega
  · rcases List.mem_append.1 he with q | q
    · exact List.mem_of_mem_drop q
    · exact List.mem_of_mem_take q
/-- A sum over the bands. -/
theorem sN_list (l : List Int) {n : Nat} (hn : l.length ≤ n) : sN (fun b => if b < l.length then el l b else 0) n = l.sum := by
  have key : ∀ m, m ≤ l.length → sN (fun b => if b < l.length then el l b else 0) m = (l.take m).sum := by
    intro m
    induction m with
    | zero => intro _; simp [sN]
    | succ m ih =>
      intro hm
      show sN _ m + (if m < l.length then el l m else 0) = _
      rw [ih (by omega)]
      show (l.take m).sum + (if m < l.length then el l m else 0) = _
      rw [if_pos (show m < l.length by omega), take_snoc (show m < l.length by omega), List.sum_append]
      simp
  have key2 : ∀ m, l.length ≤ m → sN (fun b => if b < l.length then el l b else 0) m = l.sum := by
    intro m
    induction m with
    | zero => intro hm; rw [key 0 (by omega), List.take_of_length_le (by omega)]
    | succ m ih =>
      intro hm
      by_cases q : l.length ≤ m
      · show sN _ m + (if m < l.length then el l m else 0) = _
        rw [ih q]
        show l.sum + (if m < l.length then el l m else 0) = _
        rw [if_neg (show ¬ m < l.length by omega)]; omega
      · rw [key (m + 1) (by omega), List.take_of_length_le (by omega)]
  exact key2 n hn
theorem level_pos {n : Int} (h : 60 ≤ levelE n) : 0 < n := by
  apply Classical.byContradiction
  intro q
  have := levelE_mono (e := n) (e' := 0) (by omega)
  have h0 : levelE 0 = -1 := by kernel_rfl
  omega
end Go.Fly.Off
end
section
/- The law on the number of a house: contracts. -/
namespace Go.Fly.Off
open Go
/-- A frozen journal is copied. -/
def ownEC : Contract := fun _ args => ⟨∃ l, args = [encRows 5 encEv l] ∧ l.length ≤ 1000 ∧ ∀ e ∈ l, EvB e, encRows 5 encEv (decRows decEv (arg args 0)), none⟩
def jouC : Contract := fun _ args => ⟨∃ es share, args = [encInts es, .int .i64 share] ∧ NumOk es share, encRows 5 encEv (jou (decInts (arg args 0)) (intOf (arg args 1))), none⟩
attribute [go_sem] ownEC jouC
theorem pu_intsE (l : List Int) : Pu (encInts l) ↔ True := iff_true_intro (pu_sl.2 fun i hi v hv => by rw [List.mem_singleton.1 hv]; exact .int _ _)
theorem w3264 : (32 < 64 ∧ IntKind.i64.signed = true) = True := eq_true (by decide)
theorem jou1_step {es : List Int} {share : Int} {L L2 : List Ev} {i : Nat} (heq : L = jou1 es share i) (h : L ++ [⟨(L.length : Int) + 1, [116, 121, 112, 101], [116 :: dig (i : Int)], [1, el es i], []⟩] = L2) : L2 = jou1 es share (i + 1) := by
  subst heq
  rw [← h]
  show _ = jou1 es share i ++ [evT i (el es i)]
  have : (((jou1 es share i).length : Nat) : Int) + 1 = (i : Int) + 2 := by rw [jou1_len]; omega
  rw [this]
  rfl
theorem jou2_step {es : List Int} {share : Int} {L L2 : List Ev} {i : Nat} (heq : L = jou2 es share i) (h : L ++ [⟨(L.length : Int) + 1, [102, 108, 105, 103, 104, 116], [102 :: dig (i : Int), 116 :: dig (i : Int)], [1, (i : Int)], []⟩] = L2) : L2 = jou2 es share (i + 1) := by
  subst heq
  rw [← h]
  show _ = jou2 es share i ++ [evF es.length i]
  have : (((jou2 es share i).length : Nat) : Int) + 1 = ((es.length + 1 + i : Nat) : Int) + 1 := by rw [jou2_len]; omega
  rw [this]
  rfl
theorem jou_step {es : List Int} {share : Int} {L L2 : List Ev} (heq : L = jou2 es share es.length) (h : L ++ [⟨(L.length : Int) + 1, [112, 117, 98, 108, 105, 115, 104], [[109]], [2], []⟩] = L2) : L2 = jou es share := by
  subst heq
  rw [← h]
  show _ = jou2 es share es.length ++ [evP es.length]
  have : (((jou2 es share es.length).length : Nat) : Int) + 1 = ((es.length + 1 + es.length : Nat) : Int) + 1 := by rw [jou2_len]; omega
  rw [this]
  rfl
/-- What the law on the number is handed. -/
structure NmOk (n : Nat) (get : Nat → List V) (x : Nat → Int) : Prop where
  len : n ≤ 9223372036854775807
  row : ∀ i, i < n → get i = [.int .u32 (x i)] ∧ 0 ≤ x i ∧ x i ≤ 4294967295
theorem NmOk.pu {n : Nat} {get : Nat → List V} {x : Nat → Int} (h : NmOk n get x) : Pu (.sl n 1 get) ↔ True := iff_true_intro (pu_sl.2 fun i hi v hv => by
  rw [(h.row i hi).1] at hv
  rw [List.mem_singleton.1 hv]; exact .int _ _)
def numLC : Contract := fun _ args => ⟨∃ n get x a b c, args = [.sl n 1 get, .agg [.int .u16 a, .int .u16 b, .int .u16 c]] ∧ NmOk n get x ∧ (0 ≤ a ∧ a ≤ 65535) ∧ (0 ≤ b ∧ b ≤ 65535) ∧ 0 ≤ c ∧ c ≤ 65535, .bool true, none⟩
attribute [go_sem] numLC
def esOf (n : Nat) (x : Nat → Int) : List Int := (List.range n).map fun i => (x i).tmod 100000001
theorem esOf_len (n : Nat) (x : Nat → Int) : (esOf n x).length = n := by simp [esOf]
theorem esOf_at {n i : Nat} {x : Nat → Int} (h : i < n) : el (esOf n x) i = (x i).tmod 100000001 := el_range _ h
theorem tmod_bd {a b : Int} (ha : 0 ≤ a) (hb : 0 < b) : 0 ≤ a.tmod b ∧ a.tmod b < b := by
  rw [Int.tmod_eq_emod_of_nonneg ha]
  exact ⟨Int.emod_nonneg _ (by omega), Int.emod_lt_of_pos _ hb⟩
theorem esOf_ok {n : Nat} {get : Nat → List V} {x : Nat → Int} (h : NmOk n get x) (hn : n ≤ 8) {a : Int} (ha : 0 ≤ a ∧ a ≤ 65535) : NumOk (esOf n x) (a.tmod 1001) := by
  refine ⟨by rw [esOf_len]; exact hn, fun e he => ?_, ?_⟩
  · obtain ⟨i, hi, rfl⟩ := List.mem_map.1 he
    have := tmod_bd (a := x i) (b := 100000001) (h.row i (List.mem_range.1 hi)).2.1 (by decide)
    omega
  · have := tmod_bd (a := a) (b := 1001) ha.1 (by decide)
    omega
theorem chainN_len (es : List Int) (share : Int) : (chainN es share).length = es.length := by unfold chainN; simp
theorem chain_rows (es : List Int) (share : Int) : encRows 2 encIt (chainN es share) = .sl es.length 2 fun i => encIt (el (chainN es share) i) := by
  unfold encRows; rw [chainN_len]
theorem chain_at {es : List Int} {share : Int} {i : Nat} (h : i < es.length) : encIt (el (chainN es share) i) = [.str (102 :: dig (i : Int)), .int .i64 (thE es share i)] := by
  unfold chainN
  rw [el_range _ h]
  rfl
/-- The energies that a chain leads to. -/
def thL (es : List Int) (share : Int) : List Int := (List.range es.length).map (thE es share)
theorem thL_len (es : List Int) (share : Int) : (thL es share).length = es.length := by simp [thL]
theorem thL_at {es : List Int} {share : Int} {i : Nat} (h : i < es.length) : el (thL es share) i = thE es share i := el_range _ h
theorem pu_itsN (n : Nat) (l : List It) : Pu (.sl n 2 fun i => encIt (el l i)) ↔ True := iff_true_intro (pu_sl.2 fun i _ => (ones_it _).pu)
theorem thL_map (es : List Int) (share : Int) : thL es share = es.map fun e => (e * share).tdiv 1000 := by
  apply List.ext_getElem
  · simp [thL]
  · intro i h1 h2
    have h3 : i < es.length := by simpa using h2
    simp [thL, thE, el, h3]
/-- A sum over the bands of a row that has a list's elements. -/
theorem gE_sum {l : List Int} {n : Nat} {get : Nat → List V} (hn : n = l.length) (h8 : n ≤ 8) (hg : ∀ i, i < n → get i = [.int .i64 (el l i)]) : sN (gE n get) 8 = l.sum := by
  subst hn
  have e1 : gE l.length get = fun b => if b < l.length then el l b else 0 := by
    funext b
    unfold gE
    split
    · rename_i q
      unfold intAt
      rw [hg b q]
    · rfl
  rw [e1, sN_list _ h8]
theorem gE_out {l : List Int} {n : Nat} {get : Nat → List V} (hn : n = l.length) (hg : ∀ i, i < n → get i = [.int .i64 (el l i)]) (hb : ∀ e ∈ l, 0 ≤ e ∧ e ≤ 100000000) : OutOk (gE n get) := fun b _ => by
  unfold gE
  split
  · rename_i q
    unfold intAt
    rw [hg b q]
    exact hb _ (el_mem (by omega))
  · omega
theorem thL_bd {es : List Int} {share : Int} (h : NumOk es share) : ∀ e ∈ thL es share, 0 ≤ e ∧ e ≤ 100000000 := fun e he => by
  obtain ⟨i, hi, rfl⟩ := List.mem_map.1 he
  exact thE_bd h (List.mem_range.1 hi)
theorem thL_sum (es : List Int) (share : Int) : (thL es share).sum = sumN' es share := by rw [thL_map, sumN_sum]
theorem intsF (l : List Int) {n : Nat} (h : n ≤ 1000000) : IsInts n fun j => [V.int .i64 (el l j)] := ⟨by omega, fun i hi => rfl⟩
theorem vent_intsN {n : Nat} {get : Nat → List V} {l : List Int} (hn : n = l.length) (hg : ∀ i, i < n → get i = [.int .i64 (el l i)]) : VEnt (.sl n 1 get) (encInts l) := by
  subst hn
  exact VEnt.sl hg
/-- A call of a function whose contract is known, with frozen arguments. -/
theorem callT_pure {X : Cx} (hX : X.Ok) {hp : Heap} {ck : Nat} {f : FuncId} {C : Contract} {args : List V} {v : V} {Kn : V → Heap → Nat → Prop} (hf : X.Γ f = some C) (hpu : ∀ a ∈ args, Pu a) (hpre : ∀ rl, (C rl args).pre)
    (hobj : ∀ rl, (C rl args).obj = none) (hval : ∀ rl, (C rl args).val = v) (hv : Pu v) (hK : Kn v hp ck) : CallT X hp ck f args Kn := by
  have he : args.map (frz 5 hp) = args := by
    refine (List.map_congr_left fun a ha => ?_).trans (List.map_id args)
    simp only [frz, if_pos (hpu a ha)]; rfl
  refine callT_of_holds hX (s := ⟨ck, [], hp⟩) (dst := none) hf ⟨?_, .inl hpu, ?_⟩ ?_
  · rw [he]; exact hpre _
  · rw [he, hobj, hval]; exact hv
  · rw [he, hobj, hval]; exact hK
/-- A list that a call is handed is frozen ahead of it, and weakened. -/
theorem callT_kill0 {X : Cx} {hp : Heap} {ck : Nat} {f : FuncId} {T : Loc} {n : Nat} {get : Nat → List V} {b' : V} {rest : List V} {Kn : V → Heap → Nat → Prop} (ht : hp T = some (.arr n 1 get)) (hpr : ∀ (i j : Nat) (v : V), i < n → (get i)[j]? = some v → Pu v)
    (hw : VEnt (.sl n 1 get) b') (h : CallT X (fun _ => none) (ck + 1) f (b' :: rest) Kn) : CallT X hp ck f (.msl T 0 n :: rest) Kn := by
  refine CallT.pre (ck2 := ck + 1) (args2 := .sl n 1 get :: rest) (hp2 := fun _ => none) (fun k0 => ?_) ?_
  · exact Ents.trans (Ents.kill (s := ⟨ck, .msl T 0 n :: rest, hp⟩) (d := 0) rfl ht hpr) (Ents.go (tmLe_refl _) HpLe.none)
  · refine callT_vent (args2 := b' :: rest) rfl (fun j v hv => ?_) h
    rcases j with _ | j
    · exact ⟨_, rfl, by simp at hv; rw [← hv]; exact hw⟩
    · exact ⟨v, hv, VEnt.refl _⟩
theorem tpu {G : Nat → V} {p : Prop} [Decidable p] {a b j : Nat} {v : V} (hG : ∀ m, Pu (G m)) (h : (if p then [G a] else [G b])[j]? = some v) : Pu v := by
  have := List.mem_of_getElem? h
  split at this
  · rw [List.mem_singleton.1 this]; exact hG _
  · rw [List.mem_singleton.1 this]; exact hG _
theorem callT_postV {X : Cx} {hp : Heap} {ck : Nat} {f : FuncId} {args : List V} {Kn : V → Heap → Nat → Prop}
    (h : CallT X hp ck f args (fun r hp' ck' => ∃ r2, VEnt r r2 ∧ Kn r2 hp' ck')) : CallT X hp ck f args Kn := by
  intro w M B vs hst hho hargs
  exact (h w M B vs hst hho hargs).mono fun e w' ⟨rv, r, hp', ck', M', B', ⟨r2, hv, hK⟩, q1, q2, q3, q4⟩ => ⟨rv, r2, hp', ck', M', B', hK, q1, q2, q3, hv _ _ q4⟩
theorem isInts_of {n : Nat} {get : Nat → List V} {l : List Int} (hn : n ≤ 1000000) (hg : ∀ i, i < n → get i = [.int .i64 (el l i)]) : IsInts n get := ⟨by omega, fun i hi => by unfold intAt; rw [hg i hi]⟩
/-- The two zones as the law writes them. -/
def znRow (Z : Int) : List V := [.str [108, 111, 119], .int .i64 60, .int .i64 50, .int .i64 0, .str [104, 105, 103, 104], .int .i64 Z, .int .i64 80, .int .i64 0]
theorem ones_zn (Z : Int) : Ones (znRow Z) := by
  unfold znRow
  repeat' first | exact ones_nil | refine ones_cons (.int _ _) rfl ?_ | refine ones_cons (.str _) rfl ?_
theorem pu_zn (Z : Int) : Pu (.sl 2 4 (rowAt (znRow Z) 4)) := pu_rowAt (ones_zn Z).pu
theorem zn_lit {Z : Int} (h : 61 ≤ Z ∧ Z ≤ 90) : ZnOk (rowAt (znRow Z) 4) Z := ⟨rfl, rfl, h⟩
/-- A turned list, as the pieces lie. -/
theorem turn_at (l : List Int) {k i : Nat} (hk : k ≤ l.length) (hi : i < l.length) : el (l.drop k ++ l.take k) i = if i < l.length - k then el l (k + i) else el l (i - (l.length - k)) := by
  unfold el
  simp only [List.getD_eq_getElem?_getD]
  by_cases q : i < l.length - k
  · rw [if_pos q, List.getElem?_append_left (by simp; exact q), List.getElem?_drop]
  · rw [if_neg q, List.getElem?_append_right (by simp; omega)]
    simp only [List.length_drop]
    rw [List.getElem?_take_of_lt (by omega)]
theorem thL_turn (es : List Int) (share : Int) (k : Nat) : thL (es.drop k ++ es.take k) share = (thL es share).drop k ++ (thL es share).take k := by
  simp only [thL_map, List.map_append, List.map_drop, List.map_take]
end Go.Fly.Off
end
