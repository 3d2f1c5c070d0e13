/- The office: events by themselves; the kinds of events. -/
import Derived.Test.YtfcdodaakhlppaaGreatDoorSYTOC
import Derived.Test.YtfcdodaakhlppaaGreatDoorSYTBE
import Derived.Test.YtfcdodaakhlppaaGreatDoorAL
set_option linter.unusedSimpArgs false
set_option linter.unusedVariables false
set_option maxRecDepth 100000
set_option maxHeartbeats 4000000
namespace Go.Fly.Tryz
open Go Off
/-- The numbers of the functions that check and apply events. -/
def chkF : Kd → FuncId
  | .type => 157 | .house => 159 | .flight => 161 | .match_ => 163 | .correct => 167 | .publish => 171 | .offer => 175 | .fund => 177 | .pay => 179 | .complain => 181 | .answer => 183 | .dismiss => 185 | .undo => 188
def appF : Kd → FuncId
  | .type => 158 | .house => 160 | .flight => 162 | .match_ => 166 | .correct => 169 | .publish => 172 | .offer => 176 | .fund => 178 | .pay => 180 | .complain => 182 | .answer => 184 | .dismiss => 187 | .undo => 189

theorem oChk1_ok : Holds Proofs.Tryz.prog G0 99 strErrC := by
  refine Holds.of_exC D99 Proofs.Tryz.func99 rfl foll (by kernel_rfl) (tab [(49, whenC), (54, nameC)]) (tab_ok ⟨oWhen_ok, dName_ok, trivial⟩) G0_ok fun k0 rl args hpu hpre => ?_
  unfold strErrC at hpre ⊢
  split at hpre
  rotate_left
  · exact hpre.elim
  rename_i s
  have hn : s.length ≤ 9223372036854775807 := hpre
  simp only [Proofs.Tryz.f99]
  rw [enter_mkT (Nat.le_of_ble_eq_true rfl)]
  simp (maxSteps := 4000000) only [go_sem, ↓upXAbsY, ↓upXAbsZa, ↓upXOffC]
  exact ⟨hn, VEnt.of_eq rfl⟩

theorem oChk2_ok : Holds Proofs.Tryz.prog G0 101 (int1C (fun n => rng n 0 999999999)) := by
  refine Holds.of_exC D101 Proofs.Tryz.func101 rfl foll (by kernel_rfl) (tab [(97, withinC)]) (tab_ok ⟨oWithin_ok, trivial⟩) G0_ok fun k0 rl args hpu hpre => ?_
  unfold int1C at hpre ⊢
  split at hpre
  rotate_left
  · exact hpre.elim
  simp only [Proofs.Tryz.f101]
  rw [enter_mkT (Nat.le_of_ble_eq_true rfl)]
  simp (maxSteps := 4000000) only [go_sem, ↓upXAbsY, ↓upXAbsZa, ↓upXOffC]
  exact VEnt.of_eq rfl

theorem oMapStr_ok : Holds Proofs.Tryz.prog G0 98 (mapStrC 99) := by
  refine Holds.of_exC D98 Proofs.Tryz.func98 rfl foll (by kernel_rfl) (tab [(99, strErrC)]) (tab_ok ⟨oChk1_ok, trivial⟩) G0_ok fun k0 rl args hpu hpre => ?_
  unfold mapStrC at hpre ⊢
  obtain ⟨l, rfl, hl, hs⟩ := hpre
  simp only [arg_0, dec_strs]
  simp only [Proofs.Tryz.f98]
  rw [enter_mkT (Nat.le_of_ble_eq_true rfl)]
  simp (maxSteps := 4000000) only [go_sem, ↓upXAbsY, ↓upXAbsZa, ↓upXOffC, encStrs]
  refine RestT.ents (Ents.nilArr (d := 5) (l := (4, 1000)) 1 (fun _ => []) rfl rfl rfl) ?_
  simp (maxSteps := 4000000) only [go_sem, ↓upXAbsY, ↓upXAbsZa, ↓upXOffC]
  refine RestT.loopF (β := Nat) [(5, 5), (7, 7), (10, 20)] (fun i => [(5, .msl (4, 1000) 0 i), (10, .int .i64 i)]) (fun i => updH (fun _ => none) (4, 1000) (.arr i 1 (fun i => [.int .i64 (err (!nameB (el l i)) 8)]))) (fun i => i ≤ l.length) (fun i => l.length - i) 0 (Nat.zero_le _) ?_ (HpLe.arr1 (updH_same _ _ _) rfl rfl fun i hi => by omega) ?_
  · simp (maxSteps := 4000000) only [go_sem, ↓upXAbsY, ↓upXAbsZa, ↓upXOffC]
    try simp
  · intro ck i hck hi
    generalize hq0 : exC _ _ _ _ _ = gg
    by_cases hlt : i < l.length
    · have hd : decide ((i : Int) < (l.length : Int)) = true := by simp; omega
      rw [← hq0]
      clear hq0
      simp (maxSteps := 4000000) only [go_sem, ↓upXAbsY, ↓upXAbsZa, ↓upXOffC, hd, encStrs]
      exact ⟨⟨by omega, by omega⟩, hs _ (by rw [el_get _ hlt]; exact List.getElem_mem hlt), ⟨by omega, by omega, row_ok rfl ones_int⟩, inK_of (by omega) (by omega), i + 1, hlt, by omega, ⟨rfl, rfl⟩, HpLe.arr1 (updH_same _ _ _) rfl rfl fun j hj => snoc (f := fun i => [.int .i64 (err (!nameB (el l i)) 8)]) rfl rfl hj⟩
    · have hd : decide ((i : Int) < (l.length : Int)) = false := by simp; omega
      obtain rfl : i = l.length := by omega
      rw [← hq0]
      clear hq0
      simp (maxSteps := 4000000) only [go_sem, ↓upXAbsY, ↓upXAbsZa, ↓upXOffC, hd, Nat.zero_add]
      exact vent_ints (by simp) fun i hi => by rw [el_map (fun s => err (!nameB s) 8) l (by simpa using hi)]

theorem oMapInt_ok : Holds Proofs.Tryz.prog G0 100 (mapRngC 101) := by
  refine Holds.of_exC D100 Proofs.Tryz.func100 rfl foll (by kernel_rfl) (tab [(101, int1C (fun n => rng n 0 999999999))]) (tab_ok ⟨oChk2_ok, trivial⟩) G0_ok fun k0 rl args hpu hpre => ?_
  unfold mapRngC at hpre ⊢
  obtain ⟨l, rfl, hl⟩ := hpre
  simp only [arg_0, dec_ints]
  simp only [Proofs.Tryz.f100]
  rw [enter_mkT (Nat.le_of_ble_eq_true rfl)]
  simp (maxSteps := 4000000) only [go_sem, ↓upXAbsY, ↓upXAbsZa, ↓upXOffC, encInts]
  refine RestT.ents (Ents.nilArr (d := 5) (l := (4, 1000)) 1 (fun _ => []) rfl rfl rfl) ?_
  simp (maxSteps := 4000000) only [go_sem, ↓upXAbsY, ↓upXAbsZa, ↓upXOffC]
  refine RestT.loopF (β := Nat) [(5, 5), (7, 7), (10, 20)] (fun i => [(5, .msl (4, 1000) 0 i), (10, .int .i64 i)]) (fun i => updH (fun _ => none) (4, 1000) (.arr i 1 (fun i => [.int .i64 (rng (el l i) 0 999999999)]))) (fun i => i ≤ l.length) (fun i => l.length - i) 0 (Nat.zero_le _) ?_ (HpLe.arr1 (updH_same _ _ _) rfl rfl fun i hi => by omega) ?_
  · simp (maxSteps := 4000000) only [go_sem, ↓upXAbsY, ↓upXAbsZa, ↓upXOffC]
    try simp
  · intro ck i hck hi
    generalize hq0 : exC _ _ _ _ _ = gg
    by_cases hlt : i < l.length
    · have hd : decide ((i : Int) < (l.length : Int)) = true := by simp; omega
      rw [← hq0]
      clear hq0
      simp (maxSteps := 4000000) only [go_sem, ↓upXAbsY, ↓upXAbsZa, ↓upXOffC, hd, encInts]
      exact ⟨⟨by omega, by omega⟩, ⟨by omega, by omega, row_ok rfl ones_int⟩, inK_of (by omega) (by omega), i + 1, hlt, by omega, ⟨rfl, rfl⟩, HpLe.arr1 (updH_same _ _ _) rfl rfl fun j hj => snoc (f := fun i => [.int .i64 (rng (el l i) 0 999999999)]) rfl rfl hj⟩
    · have hd : decide ((i : Int) < (l.length : Int)) = false := by simp; omega
      obtain rfl : i = l.length := by omega
      rw [← hq0]
      clear hq0
      simp (maxSteps := 4000000) only [go_sem, ↓upXAbsY, ↓upXAbsZa, ↓upXOffC, hd, Nat.zero_add]
      exact vent_ints (by simp) fun i hi => by rw [el_map (fun v => rng v 0 999999999) l (by simpa using hi)]

theorem oForms_ok : Holds Proofs.Tryz.prog G0 96 (formsC chkF appF) := by
  refine Holds.of_exC D96 Proofs.Tryz.func96 rfl foll (by kernel_rfl) (tab []) (tab_ok trivial) G0_ok fun k0 rl args hpu hpre => ?_
  unfold formsC at hpre ⊢
  have hpre : args = [] := hpre
  subst hpre
  simp only [Proofs.Tryz.f96]
  rw [enter_mkT (Nat.le_of_ble_eq_true rfl)]
  simp (maxSteps := 4000000) only [go_sem, ↓upXAbsY, ↓upXAbsZa, ↓upXOffC, List.push_toArray, List.nil_append, List.cons_append, List.cons.injEq, u8_1, u8_2, u8_3, u8_4, u8_5, u8_6, u8_7, u8_8, u8_9, u8_10, u8_11, List.toList_toArray, Array.toList_push, not_false_eq_true]
  exact ⟨fun L o h => (by cases h), fun L => VEnt.of_eq (frz_mappU.trans rfl)⟩

theorem oEvent_ok : Holds Proofs.Tryz.prog G0 48 eventC := by
  refine Holds.of_exC D48 Proofs.Tryz.func48 rfl foll (by kernel_rfl) (tab [(47, firstC), (49, whenC), (96, formsC chkF appF), (97, withinC), (98, mapStrC 99), (99, strErrC), (100, mapRngC 101), (101, int1C (fun n => rng n 0 999999999)), (iceKey 1, iceC)]) (tab_ok ⟨oFirst_ok, oWhen_ok, oForms_ok, oWithin_ok, oMapStr_ok, oChk1_ok, oMapInt_ok, oChk2_ok, ice_holds, trivial⟩) G0_ok fun k0 rl args hpu hpre => ?_
  unfold eventC at hpre ⊢
  obtain ⟨e, rfl, hb⟩ := hpre
  simp only [arg_0, cellsOf_agg, dec_ev]
  cases hk : kindOf e.kind with
  | none =>
    have h1 : ∀ sh, firstL [rng e.num 1 1000, 13, sh] = eventE e := fun sh => (eventE_none hk sh).1
    have h2 : decide (eventE e = 0) = false := decide_eq_false (eventE_none hk 0).2
    simp only [Proofs.Tryz.f48]
    rw [enter_mkT (Nat.le_of_ble_eq_true rfl)]
    simp (maxSteps := 4000000) only [go_sem, ↓upXAbsY, ↓upXAbsZa, ↓upXOffC, encEv, encStrs, encInts, hk, Option.isSome_none, Bool.not_false, err_t, h1, h2]
    exact ⟨fun _ => VEnt.of_eq rfl, fun _ => VEnt.of_eq rfl⟩
  | some k =>
    have he := eventE_some hk
    have hl1 : (e.names.map fun s => err (!nameB s) 8).length ≤ 9223372036854775807 := by rw [List.length_map]; have := hb.names; omega
    have hl2 : (e.vals.map fun v => rng v 0 999999999).length ≤ 9223372036854775807 := by rw [List.length_map]; have := hb.vals; omega
    have hn := hb.names
    have hv := hb.vals
    have hs := hb.strs
    by_cases c1 : e.names.length = k.letters.length
    · have d1 : decide ((e.names.length : Int) = (k.letters.length : Int)) = true := decide_eq_true (by omega)
      have e2 : (decide (e.names.length ≠ k.letters.length) || decide (e.vals.length ≠ k.values)) = !decide ((e.vals.length : Int) = (k.values : Int)) := by
        by_cases c2 : e.vals.length = k.values
        · rw [decide_eq_true (show (e.vals.length : Int) = (k.values : Int) by omega)]; simp [c1, c2]
        · rw [decide_eq_false (show ¬ (e.vals.length : Int) = (k.values : Int) by omega)]; simp [c1, c2]
      rw [e2] at he
      by_cases w : firstL [rng e.num 1 1000, 0, err (!decide ((e.vals.length : Int) = (k.values : Int))) 2] = 0
      · rw [if_neg (by simpa using w)] at he
        simp only [Proofs.Tryz.f48]
        rw [enter_mkT (Nat.le_of_ble_eq_true rfl)]
        simp (maxSteps := 4000000) only [go_sem, ↓upXAbsY, ↓upXAbsZa, ↓upXOffC, encEv, encStrs, encInts, hk, Option.isSome_some, Bool.not_true, err_f, d1, w, decide_true, Bool.not_false]
        exact ⟨⟨_, rfl, hn, hs⟩, hl1, ⟨_, rfl, hv⟩, hl2, VEnt.of_eq (by rw [he]; simp)⟩
      · rw [if_pos (by simpa using w)] at he
        have dw : decide (firstL [rng e.num 1 1000, 0, err (!decide ((e.vals.length : Int) = (k.values : Int))) 2] = 0) = false := decide_eq_false w
        simp only [Proofs.Tryz.f48]
        rw [enter_mkT (Nat.le_of_ble_eq_true rfl)]
        simp (maxSteps := 4000000) only [go_sem, ↓upXAbsY, ↓upXAbsZa, ↓upXOffC, encEv, encStrs, encInts, hk, Option.isSome_some, Bool.not_true, err_f, d1, dw, Bool.not_false]
        exact VEnt.of_eq (by rw [he])
    · have d1 : decide ((e.names.length : Int) = (k.letters.length : Int)) = false := decide_eq_false (by omega)
      have e2 : err (decide (e.names.length ≠ k.letters.length) || decide (e.vals.length ≠ k.values)) 2 = 2 := by
        rw [decide_eq_true c1]; rfl
      rw [e2] at he
      have w : firstL [rng e.num 1 1000, 0, 2] ≠ 0 := by unfold firstL; split <;> simp_all [firstL]
      rw [if_pos w] at he
      have dw : decide (firstL [rng e.num 1 1000, 0, 2] = 0) = false := decide_eq_false w
      simp only [Proofs.Tryz.f48]
      rw [enter_mkT (Nat.le_of_ble_eq_true rfl)]
      simp (maxSteps := 4000000) only [go_sem, ↓upXAbsY, ↓upXAbsZa, ↓upXOffC, encEv, encStrs, encInts, hk, Option.isSome_some, Bool.not_true, err_f, err_t, d1, dw, Bool.not_false]
      exact VEnt.of_eq (by rw [he])
end Go.Fly.Tryz
