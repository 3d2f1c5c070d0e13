/- Part of a proof: an evaluator of the model's code by abstract values, and plain laws for it. No conditions. -/
import Derived.Test.YtfcdodaakhlppaaGreatDoorAV
set_option linter.unusedSimpArgs false
set_option linter.unusedVariables false
section
/- The office: what is asked about a name; numbers. -/
namespace Go.Fly.Off
open Go
/-- What stands behind a journal, as its questions see it. -/
def askE (l : List Ev) (c : Int) (s : Str) : Int := if (replayed levelE l).2.2 ≠ 0 then (replayed levelE l).2.2 else err (!decide (s ∈ (replayed levelE l).1.now.namesOf c)) 10
def askC : Contract := fun _ args => ⟨∃ l c s, args = [encRows 5 encEv l, .int .u8 c, .str s] ∧ l.length ≤ 1000000 ∧ (∀ e ∈ l, EvB e),
  .tup [.cptr (encHist (replayed levelE (decRows decEv (arg args 0))).1), .int .i64 (askE (decRows decEv (arg args 0)) (intOf (arg args 1)) (strOf (arg args 2)))], none⟩
def numE (l : List Ev) (s : Str) : Int × Int × Int :=
  if askE l 104 s ≠ 0 then (0, 0, askE l 104 s) else
    let r := (replayed levelE l).1.now
    (sumOf (r.chain (r.house s).share), levelE (sumOf (r.chain (r.house s).share)), 0)
def numberQC : Contract := fun _ args => ⟨∃ l s, args = [encRows 5 encEv l, .str s] ∧ l.length ≤ 1000000 ∧ (∀ e ∈ l, EvB e),
  .tup [.int .i64 (numE (decRows decEv (arg args 0)) (strOf (arg args 1))).1, .int .i64 (numE (decRows decEv (arg args 0)) (strOf (arg args 1))).2.1, .int .i64 (numE (decRows decEv (arg args 0)) (strOf (arg args 1))).2.2], none⟩
attribute [go_sem] askC numberQC
theorem ask_zero {l : List Ev} {c : Int} {s : Str} (h : askE l c s = 0) : (replayed levelE l).2.2 = 0 ∧ s ∈ (replayed levelE l).1.now.namesOf c := by
  unfold askE at h
  split at h
  · rename_i q; exact absurd h q
  · rename_i q
    have := (err_zero (e := 10) (by decide)).1 h
    exact ⟨Classical.not_not.1 q, by simpa using this⟩
theorem house_mem {r : Reg} {s : Str} (h : s ∈ r.namesOf 104) : r.house s ∈ r.houses := el_mem (place_lt_of (f := Ho.name) h)
theorem replayed_good (l : List Ev) : Good (replayed levelE l).1.now := (replayed_ok l).1.good
def wordsC : Contract := fun _ args => ⟨∃ n get, args = [.sl n 1 get] ∧ StrsV n get, encStrs (decStrs (arg args 0)), none⟩
theorem dec_lit1 {a : Str} : decStrs (.sl 1 1 (rowAt [.str a] 1)) = [a] := rfl
theorem dec_lit2 {a b : Str} : decStrs (.sl 2 1 (rowAt [.str a, .str b] 1)) = [a, b] := rfl
theorem dec_litI1 {a : Int} : decInts (.sl 1 1 (rowAt [.int .i64 a] 1)) = [a] := rfl
theorem dec_litI2 {a b : Int} : decInts (.sl 2 1 (rowAt [.int .i64 a, .int .i64 b] 1)) = [a, b] := rfl
attribute [go_sem] dec_lit1 dec_lit2 dec_litI1 dec_litI2
theorem lit1_ok {a : Str} : StrsV 1 (rowAt [.str a] 1) := ⟨by omega, fun i hi => by obtain rfl : i = 0 := (by omega); rfl⟩
theorem vent_dec {n : Nat} {get : Nat → List V} (h : StrsV n get) : VEnt (.sl n 1 get) (encStrs (decStrs (.sl n 1 get))) := vent_strs (by simp [decStrs, decRows]) fun i hi => by
  have hi : i < n := by simpa [decStrs, decRows] using hi
  rw [h.2 i hi]
  simp [decStrs, decRows, el, hi]
theorem w8 : (64 < 8 ∧ IntKind.u8.signed = true) = False := eq_false (by decide)
/-- A digit as a word. -/
def dig (n : Int) : Str := [UInt8.ofNat (48 + n.toNat)]
def text1C : Contract := fun _ args => ⟨∃ n, args = [.int .i64 n] ∧ 0 ≤ n ∧ n ≤ 9, .str (dig (intOf (arg args 0))), none⟩
attribute [go_sem] wordsC text1C
theorem hpLe_more {hp hp' : Heap} {l : Loc} {a : AObj} (h : HpLe hp hp') (h' : hp' l = Option.none) : HpLe (updH hp l a) hp' := fun m o q => by
  by_cases e : m = l
  · subst e
    rw [h'] at q
    cases q
  · rw [updH_ne e]
    exact h m o q
theorem row_ok0 {cells : List V} {sz : Nat} (hl : cells.length = sz) (h : Ones cells) : ∀ i, i < 1 → ∀ v, v ∈ rowAt cells sz i → (Pu v ∨ isMsl v = true) ∧ oneC v = true := fun i hi v hv => by
  subst hl
  exact row_ok rfl h i hi v (by rw [Nat.zero_add]; exact hv)
theorem hpLe_low {S H : Heap} {L : Loc} {o o' : AObj} {ck : Nat} (hf : ∀ q : Loc, ck < q.1 → H q = none) (hs : ∀ q : Loc, q.1 ≤ ck → S q = H q) (hS : S L = some o) (ho : ObjLe o o') : HpLe S (updH H L o') := by
  intro q x hx
  by_cases e : q = L
  · subst e
    rw [updH_same] at hx
    cases hx
    exact ⟨o, hS, ho⟩
  · rw [updH_ne e] at hx
    refine ⟨x, ?_, ObjLe.refl _⟩
    rw [hs q (by apply Classical.byContradiction; intro h; rw [hf q (by omega)] at hx; cases hx)]
    exact hx
/-- What a call is handed may be weakened. -/
theorem callT_vent {X : Cx} {hp : Heap} {ck : Nat} {f : FuncId} {args args2 : List V} {Kn : V → Heap → Nat → Prop} (hl : args2.length = args.length) (hv : ∀ (j : Nat) (v : V), args2[j]? = some v → ∃ u, args[j]? = some u ∧ VEnt u v)
    (h : CallT X hp ck f args2 Kn) : CallT X hp ck f args Kn := fun w M B vs hst hho hargs => h w M B vs hst hho ⟨by rw [hl]; exact hargs.1, fun j v hj => by
      obtain ⟨u, h1, h2⟩ := hv j v hj
      exact h2 _ _ (hargs.2 j u h1)⟩
theorem callT_vent4 {X : Cx} {hp : Heap} {ck : Nat} {f : FuncId} {a b c d c' d' : V} {Kn : V → Heap → Nat → Prop} (h1 : VEnt c c') (h2 : VEnt d d') (h : CallT X hp ck f [a, b, c', d'] Kn) : CallT X hp ck f [a, b, c, d] Kn :=
  callT_vent (args2 := [a, b, c', d']) rfl (fun j v hv => by
    rcases j with _ | _ | _ | _ | j
    · exact ⟨_, rfl, by simp at hv; rw [hv]; exact VEnt.refl _⟩
    · exact ⟨_, rfl, by simp at hv; rw [hv]; exact VEnt.refl _⟩
    · exact ⟨_, rfl, by simp at hv; rw [← hv]; exact h1⟩
    · exact ⟨_, rfl, by simp at hv; rw [← hv]; exact h2⟩
    · simp at hv) h
theorem rowAt_one {f : Nat → V} {n i : Nat} {cells : List V} (hc : cells[i]? = some (f i)) : rowAt cells 1 i = [f i] := by
  unfold rowAt
  rw [Nat.mul_one]
  have h := List.getElem?_eq_some_iff.1 hc
  obtain ⟨hlt, he⟩ := h
  rw [List.drop_eq_getElem_cons hlt, he]
  rfl
theorem vent_rowI (l : List Int) : VEnt (.sl l.length 1 (rowAt (l.map (V.int .i64)) 1)) (encInts l) := VEnt.sl fun i hi => rowAt_one (f := fun i => .int .i64 (el l i)) (n := 0) (by simp [hi, el])
/-- A journal in a variable. -/
def putJ (H : Heap) (box ln : Loc) (l : List Ev) : Heap := updH (updH H box (.cells [.msl ln 0 l.length])) ln (.arr l.length 5 fun i => encEv (el l i))
theorem putJ_le {S H : Heap} {box ln : Loc} {l : List Ev} {ck : Nat} (hne : ¬ box = ln) (hf : ∀ q : Loc, ck < q.1 → H q = none) (hs : ∀ q : Loc, q.1 ≤ ck → ¬ q = box → ¬ q = ln → S q = H q)
    (hb : S box = some (.cells [.msl ln 0 l.length])) (he : ∃ o, S ln = some o ∧ ObjLe o (.arr l.length 5 fun i => encEv (el l i))) : HpLe S (putJ H box ln l) := by
  intro q o ho
  unfold putJ at ho
  by_cases q1 : q = ln
  · subst q1
    rw [updH_same] at ho
    cases ho
    exact he
  rw [updH_ne q1] at ho
  by_cases q2 : q = box
  · subst q2
    rw [updH_same] at ho
    cases ho
    exact ⟨_, hb, ObjLe.refl _⟩
  rw [updH_ne q2] at ho
  refine ⟨o, ?_, ObjLe.refl _⟩
  rw [hs q (by apply Classical.byContradiction; intro h; rw [hf q (by omega)] at ho; cases ho) q2 q1]
  exact ho
theorem putJ_box {H : Heap} {box ln : Loc} {l : List Ev} (hne : ¬ box = ln) : putJ H box ln l box = some (.cells [.msl ln 0 l.length]) := by unfold putJ; rw [updH_ne hne, updH_same]
theorem putJ_ln {H : Heap} {box ln : Loc} {l : List Ev} : putJ H box ln l ln = some (.arr l.length 5 fun i => encEv (el l i)) := updH_same _ _ _
theorem putJ_ne {H : Heap} {box ln q : Loc} {l : List Ev} (h1 : ¬ q = box) (h2 : ¬ q = ln) : putJ H box ln l q = H q := by unfold putJ; rw [updH_ne h2, updH_ne h1]
/-- A journal in a variable, and nothing above. -/
structure JAt (S : Heap) (box ln : Loc) (l : List Ev) (ck : Nat) : Prop where
  atb : S box = some (.cells [.msl ln 0 l.length])
  atl : S ln = some (.arr l.length 5 fun i => encEv (el l i))
  lo1 : box.1 ≤ ck
  lo2 : ln.1 ≤ ck
  ne : ¬ box = ln
  free : ∀ q : Loc, ck < q.1 → S q = none
  len : l.length ≤ 1000
theorem JAt.put {S : Heap} {box ln : Loc} {l m : List Ev} {ck : Nat} (h : JAt S box ln l ck) (hm : m.length ≤ 1000) : JAt (putJ S box ln m) box ln m ck :=
  ⟨putJ_box h.ne, putJ_ln, h.lo1, h.lo2, h.ne, fun q hq => by
    have h1 := h.lo1
    have h2 := h.lo2
    rw [putJ_ne (by rintro rfl; omega) (by rintro rfl; omega)]; exact h.free q hq, hm⟩
theorem JAt.mono {S : Heap} {box ln : Loc} {l : List Ev} {ck ck' : Nat} (h : JAt S box ln l ck) (hc : ck ≤ ck') : JAt S box ln l ck' :=
  ⟨h.atb, h.atl, Nat.le_trans h.lo1 hc, Nat.le_trans h.lo2 hc, h.ne, fun q hq => h.free q (by omega), h.len⟩
theorem hpLe_up {S S' : Heap} {ck : Nat} (hf : ∀ q : Loc, ck < q.1 → S q = none) (hs : ∀ q : Loc, q.1 ≤ ck → S' q = S q) : HpLe S' S := fun q o ho => ⟨o, by
  rw [hs q (by apply Classical.byContradiction; intro h; rw [hf q (by omega)] at ho; cases ho)]
  exact ho, ObjLe.refl _⟩
end Go.Fly.Off
end
section
/- The laws on the office: contracts of their fixed example; calls whose continuation is not looked at. -/
namespace Go.Fly.Off
open Go
def eNumberC : Contract := fun _ args => ⟨args = [], .bool true, none⟩
attribute [go_sem] eNumberC
/-- A call whose continuation is not looked at. -/
def CallH (X : Cx) (hp : Heap) (ck : Nat) (f : FuncId) (args : List V) [h : Hid (V → Heap → Nat → Prop)] : Prop := CallT X hp ck f args h.val
theorem callT_hide {X : Cx} {hp : Heap} {ck : Nat} {f : FuncId} {args : List V} {Kn : V → Heap → Nat → Prop} : CallT X hp ck f args Kn = @CallH X hp ck f args ⟨Kn⟩ := rfl
theorem callH_clean {X : Cx} {hp hp2 : Heap} {ck : Nat} {f : FuncId} {args : List V} {Kn : V → Heap → Nat → Prop} (hle : HpLe hp hp2) (ht : tmLe args args) (h : CallT X hp2 (ck + 1) f args Kn) : @CallH X hp ck f args ⟨Kn⟩ :=
  CallT.pre (fun _ => Ents.go ht hle) h
theorem pu_litS (l : List Str) : Pu (.sl l.length 1 (rowAt (l.map V.str) 1)) := pu_rowAt fun v hv => by
  obtain ⟨s, -, rfl⟩ := List.mem_map.1 hv
  exact .str _
theorem noSlT2 {a b : Int} : NoSl (.tup [.int .i64 a, .int .i64 b]) := .tup _ fun j v hv => by
  rcases j with _ | _ | j <;> simp at hv <;> subst hv <;> exact .int _ _
theorem noSlT3 {a b c : Int} : NoSl (.tup [.int .i64 a, .int .i64 b, .int .i64 c]) := .tup _ fun j v hv => by
  rcases j with _ | _ | _ | j <;> simp at hv <;> subst hv <;> exact .int _ _
theorem pu_litI (l : List Int) : Pu (.sl l.length 1 (rowAt (l.map (V.int .i64)) 1)) := pu_rowAt fun v hv => by
  obtain ⟨s, -, rfl⟩ := List.mem_map.1 hv
  exact .int _ _
theorem litI_ok {a : Int} : IsInts 1 (rowAt [.int .i64 a] 1) := ⟨by decide, fun i hi => by obtain rfl : i = 0 := (by omega); rfl⟩
/-- The fixed example's journal. -/
def exL : List Ev := [⟨1, [116, 121, 112, 101], [[106, 101, 116]], [1, 100000000], []⟩, ⟨2, [104, 111, 117, 115, 101], [[97]], [1, 500], []⟩, ⟨3, [102, 108, 105, 103, 104, 116], [[102], [106, 101, 116]], [1, 5], []⟩]
theorem exL_num : numE exL [97] = (50000000, 67, 0) := by kernel_rfl
theorem exL_ok : ∀ e ∈ exL, EvB e := by
  intro e he
  simp only [exL, List.mem_cons, List.not_mem_nil, or_false] at he
  rcases he with rfl | rfl | rfl
  · exact ⟨by decide, by decide, by decide⟩
  · exact ⟨by decide, by decide, by decide⟩
  · exact ⟨by decide, by decide, by decide⟩
theorem ex_sum : sN (gE 1 (rowAt [V.int .i64 50000000] 1)) 8 = 50000000 := by decide
theorem ex_out : OutOk (gE 1 (rowAt [V.int .i64 50000000] 1)) := by
  intro i hi
  have : i = 0 ∨ i = 1 ∨ i = 2 ∨ i = 3 ∨ i = 4 ∨ i = 5 ∨ i = 6 ∨ i = 7 := by omega
  rcases this with rfl | rfl | rfl | rfl | rfl | rfl | rfl | rfl <;> decide
/-- An outer function's call whose continuation is not looked at. -/
def ExtH (P : Program) (hp : Heap) (f : FuncId) (args : List V) [h : Hid (V → Prop)] : Prop := ExtT P hp f args h.val
theorem extT_hide {P : Program} {hp : Heap} {f : FuncId} {args : List V} {Kn : V → Prop} : ExtT P hp f args Kn = @ExtH P hp f args ⟨Kn⟩ := rfl
end Go.Fly.Off
end
section
/- The law on the fund: its contract, its states. -/
namespace Go.Fly.Off
open Go
/-- The entries that the law is handed. -/
structure PdOk (n : Nat) (get : Nat → List V) (o : Nat → Bool) (h a : Nat → Int) : Prop where
  len : n ≤ 9223372036854775807
  row : ∀ i, i < n → get i = [.bool (o i), .int .u8 (h i), .int .u16 (a i)] ∧ (0 ≤ h i ∧ h i ≤ 255) ∧ 0 ≤ a i ∧ a i ≤ 65535
def fundC : Contract := fun _ args => ⟨∃ n get o h a, args = [.sl n 3 get] ∧ PdOk n get o h a, .bool true, none⟩
attribute [go_sem] fundC
theorem PdOk.pu {n : Nat} {get : Nat → List V} {o : Nat → Bool} {h a : Nat → Int} (q : PdOk n get o h a) : Pu (.sl n 3 get) ↔ True := iff_true_intro (pu_sl.2 fun i hi v hv => by
  rw [(q.row i hi).1] at hv
  simp only [List.mem_cons, List.not_mem_nil, or_false] at hv
  rcases hv with rfl | rfl | rfl
  · exact .bool _
  · exact .int _ _
  · exact .int _ _)
/-- A journal in a variable, and how many rounds. -/
structure JB where
  S : Heap
  l : List Ev
  i : Nat
structure JInv (box ln : Loc) (c : Nat) (b : JB) : Prop where
  at_ : JAt b.S box ln b.l c
  le : b.i ≤ 3
  eq : b.l = fbase.take (1 + b.i)
theorem dig_len (n : Int) : (dig n).length = 1 := rfl
theorem house_step {L L2 : List Ev} {i : Nat} (hi : i < 3) (heq : L = fbase.take (1 + i)) (h : L ++ [⟨(L.length : Int) + 1, [104, 111, 117, 115, 101], [104 :: dig (i : Int)], [1, 1000], []⟩] = L2) : L2 = fbase.take (1 + (i + 1)) := by
  subst heq
  have : i = 0 ∨ i = 1 ∨ i = 2 := by omega
  rcases this with rfl | rfl | rfl <;> (rw [← h]; rfl)
theorem flight_step {L L2 : List Ev} (heq : L = fbase.take 4) (h : L ++ [⟨(L.length : Int) + 1, [102, 108, 105, 103, 104, 116], [[102], [106, 101, 116]], [1, 5], []⟩] = L2) : L2 = fbase.take 5 := by
  subst heq
  rw [← h]; rfl
theorem publish_step {L L2 : List Ev} (heq : L = fbase.take 5) (h : L ++ [⟨(L.length : Int) + 1, [112, 117, 98, 108, 105, 115, 104], [[109]], [1], []⟩] = L2) : L2 = fbase := by
  subst heq
  rw [← h]; rfl
theorem w864 : (8 < 64 ∧ IntKind.i64.signed = true) = True := eq_true (by decide)
theorem w1664 : (16 < 64 ∧ IntKind.i64.signed = true) = True := eq_true (by decide)
theorem evb_of {e : Ev} (h : eventE e = 0) : EvB e := by
  obtain ⟨k, -, h2, h3, -, h5, -⟩ := event_ok h
  refine ⟨?_, ?_, fun s hs => ?_⟩
  · rw [h2]; cases k <;> decide
  · rw [h3]; cases k <;> decide
  · have := name24 (h5 s hs); omega
theorem FInv.evb {l : List Ev} {of : List Of} {fd : Int} {k : Nat} (h : FInv l of fd k) : ∀ e ∈ l, EvB e := fun e he => by
  have h1 := (replayed_ok (lv := levelE) l).1.cnt
  rw [h.rep] at h1
  obtain ⟨i, hi, rfl⟩ := List.mem_iff_getElem.1 he
  obtain ⟨k', hk⟩ := h1 i hi
  have := hk.ev
  rw [el_get _ hi] at this
  exact evb_of this
theorem evb_lens {l : List Ev} (h : ∀ e ∈ l, EvB e) : ∀ e ∈ l, e.names.length ≤ 1000000 ∧ e.vals.length ≤ 1000000 := fun e he => ⟨(h e he).names, (h e he).vals⟩
/-- One more object above. -/
theorem JAt.upd {S : Heap} {box ln L : Loc} {o : AObj} {l : List Ev} {ck ck' : Nat} (h : JAt S box ln l ck) (hL : ck < L.1) (hL2 : L.1 ≤ ck') : JAt (updH S L o) box ln l ck' := by
  have h1 := h.lo1
  have h2 := h.lo2
  refine ⟨by rw [updH_ne (by rintro rfl; omega)]; exact h.atb, by rw [updH_ne (by rintro rfl; omega)]; exact h.atl, by omega, by omega, h.ne, fun q hq => ?_, h.len⟩
  rw [updH_ne (by rintro rfl; omega)]
  exact h.free q (by omega)
theorem u8i {n : Int} (h : 0 ≤ n ∧ n ≤ 255) : ∃ i : Nat, i < 3 ∧ n.tmod 3 = (i : Int) := by
  refine ⟨(n.tmod 3).toNat, ?_, ?_⟩
  · rw [Int.tmod_eq_emod_of_nonneg h.1]; omega
  · rw [Int.tmod_eq_emod_of_nonneg h.1]; omega
end Go.Fly.Off
end
section
/- Journals whose rows are written in any way; a contract whose arguments are weakened. -/
namespace Go.Fly.Off
open Go
theorem holds_vent {P : Program} {G : Nat → V} {f : FuncId} {C C' : Contract} (h : Holds P G f C)
    (hC : ∀ rl args, (∀ a ∈ args, Pu a) → (C' rl args).pre → ∃ args2 : List V, args2.length = args.length ∧ (∀ (j : Nat) (v : V), args2[j]? = some v → ∃ u, args[j]? = some u ∧ VEnt u v) ∧ (∀ a ∈ args2, Pu a) ∧ (C rl args2).pre ∧ (C rl args2).obj = (C' rl args).obj ∧ (C rl args2).val = (C' rl args).val) : Holds P G f C' :=
  fun rl args w M vs a b c d hp => by
    obtain ⟨args2, h1, h2, h3, h4, h5, h6⟩ := hC rl args c hp
    have := h rl args2 w M vs a b h3 ⟨by rw [h1]; exact d.1, fun j v hj => by
      obtain ⟨u, q1, q2⟩ := h2 j v hj
      exact q2 _ _ (d.2 j u q1)⟩ h4
    rw [h5, h6] at this
    exact this
/-- A row that stands for an event. -/
def RowOk (e : Ev) (r : List V) : Prop := ∃ g1 g2, r = [.int .i64 e.num, .str e.kind, .sl e.names.length 1 g1, .sl e.vals.length 1 g2, .str e.text] ∧ (∀ j, j < e.names.length → g1 j = [.str (el e.names j)]) ∧ ∀ j, j < e.vals.length → g2 j = [.int .i64 (el e.vals j)]
theorem rowOk_enc (e : Ev) : RowOk e (encEv e) := ⟨_, _, rfl, fun _ _ => rfl, fun _ _ => rfl⟩
theorem RowOk.ones {e : Ev} {r : List V} (h : RowOk e r) : Ones r := by
  obtain ⟨g1, g2, rfl, q1, q2⟩ := h
  refine ones_cons (.int _ _) rfl (ones_cons (.str _) rfl (ones_cons (pu_sl.2 fun i hi v hv => ?_) rfl (ones_cons (pu_sl.2 fun i hi v hv => ?_) rfl (ones_cons (.str _) rfl ones_nil))))
  · rw [q1 i hi] at hv; rw [List.mem_singleton.1 hv]; exact .str _
  · rw [q2 i hi] at hv; rw [List.mem_singleton.1 hv]; exact .int _ _
theorem RowOk.vent {e : Ev} {r : List V} (h : RowOk e r) : VEnt (.agg r) (.agg (encEv e)) := by
  obtain ⟨g1, g2, rfl, q1, q2⟩ := h
  exact VEnt.agg ⟨VEnt.refl _, VEnt.refl _, VEnt.sl q1, VEnt.sl q2, VEnt.refl _, trivial⟩
theorem RowOk.cell {e : Ev} {r : List V} (h : RowOk e r) (j : Nat) (v : V) (hv : (encEv e)[j]? = some v) : ∃ u, r[j]? = some u ∧ VEnt u v := by
  obtain ⟨g1, g2, rfl, q1, q2⟩ := h
  rcases j with _ | _ | _ | _ | _ | j
  · exact ⟨_, rfl, by simp [encEv] at hv; rw [← hv]; exact VEnt.refl _⟩
  · exact ⟨_, rfl, by simp [encEv] at hv; rw [← hv]; exact VEnt.refl _⟩
  · exact ⟨_, rfl, by simp [encEv] at hv; rw [← hv]; exact VEnt.sl q1⟩
  · exact ⟨_, rfl, by simp [encEv] at hv; rw [← hv]; exact VEnt.sl q2⟩
  · exact ⟨_, rfl, by simp [encEv] at hv; rw [← hv]; exact VEnt.refl _⟩
  · simp [encEv] at hv
theorem vent_slR {n sz : Nat} {get get' : Nat → List V} (hl : ∀ i, i < n → (get' i).length = (get i).length) (hp : Pu (.sl n sz get')) (h : ∀ (i j : Nat) (v : V), i < n → (get' i)[j]? = some v → ∃ u, (get i)[j]? = some u ∧ VEnt u v) : VEnt (.sl n sz get) (.sl n sz get') := fun k cv hR => by
  cases hR with
  | sl0 _ _ oa cap => exact .sl0 _ _ oa cap
  | sl _ _ _ b off cap x hM hb hcap hpu hlen hc hr =>
    exact .sl _ _ _ b off cap x hM hb hcap hp (fun i hi => by rw [hl i hi]; exact hlen i hi) hc fun i j v hi hv => by
      obtain ⟨u, h1, h2⟩ := h i j v hi hv
      exact h2 _ _ (hr i j u hi h1)
theorem vent_evs {l : List Ev} {get : Nat → List V} (h : ∀ i, i < l.length → RowOk (el l i) (get i)) : VEnt (.sl l.length 5 get) (encRows 5 encEv l) :=
  vent_slR (fun i hi => by obtain ⟨g1, g2, q, -⟩ := h i hi; rw [q]; rfl) ((pu_evs l).2 trivial) fun i j v hi hv => (h i hi).cell j v hv
theorem RowOk.dec {e : Ev} {r : List V} (h : RowOk e r) : decEv r = e := by
  obtain ⟨g1, g2, rfl, q1, q2⟩ := h
  have e1 : decStrs (.sl e.names.length 1 g1) = e.names := by
    show (List.range e.names.length).map (fun i => strOf ((g1 i).getD 0 .top)) = e.names
    conv => rhs; rw [← range_el e.names]
    exact List.map_congr_left fun i hi => by rw [q1 i (List.mem_range.1 hi)]; rfl
  have e2 : decInts (.sl e.vals.length 1 g2) = e.vals := by
    show (List.range e.vals.length).map (fun i => intOf ((g2 i).getD 0 .top)) = e.vals
    conv => rhs; rw [← range_el e.vals]
    exact List.map_congr_left fun i hi => by rw [q2 i (List.mem_range.1 hi)]; rfl
  show Ev.mk e.num e.kind _ _ e.text = e
  rw [e1, e2]
def acceptsXC : Contract := fun _ args => ⟨∃ l e cs, args = [encRows 5 encEv l, .agg cs] ∧ RowOk e cs ∧ l.length ≤ 1000000 ∧ (∀ e ∈ l, EvB e) ∧ EvB e, .int .i64 (acceptsE levelE (decRows decEv (arg args 0)) (decEv (cellsOf (arg args 1)))), none⟩
attribute [go_sem] acceptsXC
theorem acceptsX_of {P : Program} {G : Nat → V} {f : FuncId} (h : Holds P G f acceptsC) : Holds P G f acceptsXC := holds_vent h fun rl args hpu hp => by
  obtain ⟨l, e, cs, rfl, h1, h2, h3, h4⟩ := hp
  refine ⟨[encRows 5 encEv l, .agg (encEv e)], rfl, fun j v hv => ?_, fun a ha => ?_, ⟨l, e, rfl, h2, h3, h4⟩, rfl, ?_⟩
  · rcases j with _ | _ | j
    · exact ⟨_, rfl, by simp at hv; rw [← hv]; exact VEnt.refl _⟩
    · exact ⟨_, rfl, by simp at hv; rw [← hv]; exact h1.vent⟩
    · simp at hv
  · simp only [List.mem_cons, List.not_mem_nil, or_false] at ha
    rcases ha with rfl | rfl
    · exact (pu_evs l).2 trivial
    · exact (pu_ev e).2 trivial
  · show V.int .i64 (acceptsE levelE _ (decEv (encEv e))) = V.int .i64 (acceptsE levelE _ (decEv cs))
    rw [dec_ev, h1.dec]
    rfl
/-- A journal in a variable, its rows written in any way, and nothing above. -/
structure JAtR (S : Heap) (box ln : Loc) (l : List Ev) (get : Nat → List V) (ck : Nat) : Prop where
  atb : S box = some (.cells [.msl ln 0 l.length])
  atl : S ln = some (.arr l.length 5 get)
  row : ∀ i, i < l.length → RowOk (el l i) (get i)
  lo1 : box.1 ≤ ck
  lo2 : ln.1 ≤ ck
  ne : ¬ box = ln
  free : ∀ q : Loc, ck < q.1 → S q = none
  len : l.length ≤ 1000
theorem JAt.rep {S : Heap} {box ln : Loc} {l : List Ev} {ck : Nat} (h : JAt S box ln l ck) : JAtR S box ln l (fun i => encEv (el l i)) ck := ⟨h.atb, h.atl, fun i hi => rowOk_enc _, h.lo1, h.lo2, h.ne, h.free, h.len⟩
theorem JAtR.mono {S : Heap} {box ln : Loc} {l : List Ev} {get : Nat → List V} {ck ck' : Nat} (h : JAtR S box ln l get ck) (hc : ck ≤ ck') : JAtR S box ln l get ck' :=
  ⟨h.atb, h.atl, h.row, Nat.le_trans h.lo1 hc, Nat.le_trans h.lo2 hc, h.ne, fun q hq => h.free q (by omega), h.len⟩
theorem JAtR.upd {S : Heap} {box ln L : Loc} {o : AObj} {l : List Ev} {get : Nat → List V} {ck ck' : Nat} (h : JAtR S box ln l get ck) (hL : ck < L.1) (hL2 : L.1 ≤ ck') : JAtR (updH S L o) box ln l get ck' := by
  have h1 := h.lo1
  have h2 := h.lo2
  refine ⟨by rw [updH_ne (by rintro rfl; omega)]; exact h.atb, by rw [updH_ne (by rintro rfl; omega)]; exact h.atl, h.row, by omega, by omega, h.ne, fun q hq => ?_, h.len⟩
  rw [updH_ne (by rintro rfl; omega)]
  exact h.free q (by omega)
/-- One more row. -/
def snocG (n : Nat) (get : Nat → List V) (r : List V) (i : Nat) : List V := if i < n then get i else rowAt r 5 (i - n)
theorem snocG_row {l : List Ev} {e : Ev} {get : Nat → List V} {r : List V} (hr : ∀ i, i < l.length → RowOk (el l i) (get i)) (he : RowOk e r) : ∀ i, i < (l ++ [e]).length → RowOk (el (l ++ [e]) i) (snocG l.length get r i) := fun i hi => by
  rw [List.length_append] at hi
  simp only [List.length_cons, List.length_nil] at hi
  unfold snocG
  by_cases q : i < l.length
  · rw [if_pos q, el_snoc_lt q]; exact hr i q
  · obtain rfl : i = l.length := by omega
    rw [if_neg q, el_snoc rfl, Nat.sub_self]
    obtain ⟨g1, g2, rfl, q1, q2⟩ := he
    exact ⟨g1, g2, rfl, q1, q2⟩
theorem snocG_last {n : Nat} {get : Nat → List V} {e : Ev} : snocG n get (encEv e) n = encEv e := by
  unfold snocG
  rw [if_neg (Nat.lt_irrefl _), Nat.sub_self]
  rfl
/-- A list that a call has made is frozen behind it, and weakened. -/
theorem callT_killV {X : Cx} {hp : Heap} {ck : Nat} {f : FuncId} {args : List V} {Kn : V → Heap → Nat → Prop}
    (h : CallT X hp ck f args (fun r hp' ck' => ∃ l n sz get hp2 r2, r = .msl l 0 n ∧ hp' l = some (.arr n sz get) ∧ (∀ (i j : Nat) (v : V), i < n → (get i)[j]? = some v → Pu v) ∧ hp2 l = none ∧ HpLe hp' hp2 ∧ VEnt (.sl n sz get) r2 ∧ Kn r2 hp2 (ck' + 1))) : CallT X hp ck f args Kn :=
  CallT.post (h.mono fun r hp' ck' ⟨l, n, sz, get, hp2, r2, h1, h2, h3, h4, h5, h6, h7⟩ => ⟨r2, hp2, ck' + 1, fun k0 => by
    subst h1
    have q := Ents.kill (k0 := k0) (s := ⟨ck', [.msl l 0 n], hp'⟩) (d := 0) rfl h2 h3
    have q2 : Ents k0 ⟨ck', [.sl n sz get], updH hp' l .dead⟩ ⟨ck' + 1, [.sl n sz get], hp2⟩ := Ents.go ⟨.inr rfl, trivial⟩ (hpLe_more h5 h4)
    refine (Ents.trans (b := ⟨ck' + 1, [.sl n sz get], hp2⟩) (q.trans q2)) ?_
    intro a w ⟨M, B, p1, p2, p3, p4⟩
    refine ⟨M, B, p1, p2, ⟨p3.1, fun t v hv => ?_⟩, p4⟩
    rcases t with _ | t
    · simp at hv
      subst hv
      exact h6 _ _ (p3.2 0 _ rfl)
    · simp at hv, h7⟩)
/-- The balance of entries whose rows are written in any way. -/
def balXC : Contract := fun _ args => ⟨∃ n get l, args = [.sl n 3 get] ∧ n = l.length ∧ (∀ i, i < n → get i = encBE (el l i)) ∧ l.length ≤ 1000000 ∧ ∀ x ∈ l, x.home.length ≤ 1000000,
  .tup [.int .i64 (balE (decRows decBE (arg args 0))).1, .int .i64 (balE (decRows decBE (arg args 0))).2], none⟩
attribute [go_sem] balXC
theorem dec_rowsG {n : Nat} {get : Nat → List V} {l : List BE} (hn : n = l.length) (h : ∀ i, i < n → get i = encBE (el l i)) : decRows decBE (.sl n 3 get) = l := by
  subst hn
  show (List.range l.length).map (fun i => decBE (get i)) = l
  conv => rhs; rw [← range_el l]
  exact List.map_congr_left fun i hi => by rw [h i (List.mem_range.1 hi)]; rfl
theorem balX_of {P : Program} {G : Nat → V} {f : FuncId} (h : Holds P G f balC) : Holds P G f balXC := holds_vent h fun rl args hpu hp => by
  obtain ⟨n, get, l, rfl, h1, h2, h3, h4⟩ := hp
  subst h1
  refine ⟨[encRows 3 encBE l], rfl, fun j v hv => ?_, fun a ha => ?_, ⟨l, rfl, h3, h4⟩, rfl, ?_⟩
  · rcases j with _ | j
    · exact ⟨_, rfl, by simp at hv; rw [← hv]; exact VEnt.sl h2⟩
    · simp at hv
  · rw [List.mem_singleton.1 ha]; exact (pu_bes l).2 trivial
  · show V.tup [.int .i64 (balE (decRows decBE (encRows 3 encBE l))).1, .int .i64 (balE (decRows decBE (encRows 3 encBE l))).2] = V.tup [.int .i64 (balE (decRows decBE (.sl l.length 3 get))).1, .int .i64 (balE (decRows decBE (.sl l.length 3 get))).2]
    rw [dec_bes, dec_rowsG rfl h2]
/-- What stands behind some entries. -/
structure FB where
  S : Heap
  l : List Ev
  get : Nat → List V
  offers : List Of
  fund : Int
  told : List BE
  k : Nat
structure FBInv (box ln T : Loc) (n : Nat) (c : Nat) (b : FB) : Prop where
  at_ : JAtR b.S box ln b.l b.get c
  told : b.S T = some (.arr b.told.length 3 fun i => encBE (el b.told i))
  lo : T.1 ≤ c
  fi : FInv b.l b.offers b.fund b.k
  ti : TInv b.told b.offers b.fund b.k
  le : b.k ≤ n
  hom : ∀ y ∈ b.told, y.home.length ≤ 1000000
theorem rowOff {n k i : Nat} {a : Int} : RowOk (offEv n k i a) [.int .i64 ((n : Int) + 1), .str [111, 102, 102, 101, 114], .sl 2 1 (rowAt [.str (111 :: dig (k : Int)), .str (104 :: dig (i : Int))] 1), .sl 2 1 (rowAt [.int .i64 1, .int .i64 a] 1), .str []] :=
  ⟨_, _, rfl, fun j hj => by
    have hj : j < 2 := hj
    have : j = 0 ∨ j = 1 := by omega
    rcases this with rfl | rfl <;> rfl, fun j hj => by
    have hj : j < 2 := hj
    have : j = 0 ∨ j = 1 := by omega
    rcases this with rfl | rfl <;> rfl⟩
theorem rowPay {n k : Nat} : RowOk (payEv n k) [.int .i64 ((n : Int) + 2), .str [112, 97, 121], .sl 1 1 (rowAt [.str (111 :: dig (k : Int))] 1), .sl 1 1 (rowAt [.int .i64 1] 1), .str []] :=
  ⟨_, _, rfl, fun j hj => by
    have hj : j < 1 := hj
    obtain rfl : j = 0 := by omega
    rfl, fun j hj => by
    have hj : j < 1 := hj
    obtain rfl : j = 0 := by omega
    rfl⟩
theorem snocT_row {td : List BE} {x : BE} (i : Nat) (hi : i < td.length + 1) : (if i < td.length then encBE (el td i) else rowAt (encBE x) 3 (i - td.length)) = encBE (el (td ++ [x]) i) := by
  by_cases q : i < td.length
  · rw [if_pos q, el_snoc_lt q]
  · obtain rfl : i = td.length := by omega
    rw [if_neg q, el_snoc rfl, Nat.sub_self]
    rfl
theorem snocT_pu {td : List BE} {x : BE} (i : Nat) : ∀ v ∈ (if i < td.length then encBE (el td i) else rowAt (encBE x) 3 (i - td.length)), Pu v ∧ oneC v = true := fun v hv => by
  split at hv
  · exact ones_be _ v hv
  · exact ones_be x v (List.mem_of_mem_drop (List.mem_of_mem_take hv))
theorem hpLe_three {S S' : Heap} {ck : Nat} {a b c : Loc} {oa ob oc : AObj} (hf : ∀ q : Loc, ck < q.1 → S q = none) (hs : ∀ q : Loc, q.1 ≤ ck → ¬ q = a → ¬ q = b → ¬ q = c → S' q = S q)
    (ha : ∃ o, S' a = some o ∧ ObjLe o oa) (hb : ∃ o, S' b = some o ∧ ObjLe o ob) (hc : ∃ o, S' c = some o ∧ ObjLe o oc) : HpLe S' (updH (updH (updH S a oa) b ob) c oc) := by
  intro q o ho
  by_cases q3 : q = c
  · subst q3; rw [updH_same] at ho; cases ho; exact hc
  rw [updH_ne q3] at ho
  by_cases q2 : q = b
  · subst q2; rw [updH_same] at ho; cases ho; exact hb
  rw [updH_ne q2] at ho
  by_cases q1 : q = a
  · subst q1; rw [updH_same] at ho; cases ho; exact ha
  rw [updH_ne q1] at ho
  refine ⟨o, ?_, ObjLe.refl _⟩
  rw [hs q (by apply Classical.byContradiction; intro h; rw [hf q (by omega)] at ho; cases ho) q1 q2 q3]
  exact ho
theorem hpLe_one {S S' : Heap} {ck : Nat} {a : Loc} {oa : AObj} (hf : ∀ q : Loc, ck < q.1 → S q = none) (hs : ∀ q : Loc, q.1 ≤ ck → ¬ q = a → S' q = S q) (ha : ∃ o, S' a = some o ∧ ObjLe o oa) : HpLe S' (updH S a oa) := by
  intro q o ho
  by_cases q1 : q = a
  · subst q1; rw [updH_same] at ho; cases ho; exact ha
  rw [updH_ne q1] at ho
  refine ⟨o, ?_, ObjLe.refl _⟩
  rw [hs q (by apply Classical.byContradiction; intro h; rw [hf q (by omega)] at ho; cases ho) q1]
  exact ho
theorem len_snoc {α : Type} (l : List α) (x : α) : (l ++ [x]).length = l.length + 1 := by rw [List.length_append]; rfl
theorem fReg_fund (o : List Of) (f : Int) : (fReg o f).fund = f := rfl
theorem FInv.replay {l : List Ev} {of : List Of} {fd : Int} {k : Nat} (h : FInv l of fd k) : replayE levelE l = (fReg of fd, 0, 0) := by
  unfold replayE
  rw [h.rep]
  rfl
theorem told_len {td : List BE} {of : List Of} {fd : Int} {k : Nat} (h : TInv td of fd k) : td.length = k := h.len
end Go.Fly.Off
end
