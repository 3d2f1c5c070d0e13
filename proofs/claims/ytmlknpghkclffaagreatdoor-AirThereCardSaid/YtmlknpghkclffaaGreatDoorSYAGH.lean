/- Layers by rank. -/
import Derived.Test.YtmlknpghkclffaaGreatDoorSYAGG
import Derived.Test.YtmlknpghkclffaaGreatDoorAQ
import Derived.Test.YtmlknpghkclffaaGreatDoorAT
set_option linter.unusedSimpArgs false
set_option linter.unusedVariables false
set_option maxRecDepth 100000
set_option maxHeartbeats 2000000
namespace Go.Fly.Tryz
open Go

theorem gRank1_ok : Holds Proofs.Tryz.prog G0 122 rankC := by
  refine Holds.of_exC D122 Proofs.Tryz.func122 rfl foll (by kernel_rfl) (tab [(120, fastC)]) (tab_ok ⟨aFast_ok, trivial⟩) G0_ok fun k0 rl args hpu hpre => ?_
  unfold rankC at hpre ⊢
  split at hpre
  rotate_left
  · exact hpre.elim
  rename_i a b n sz get x y
  obtain ⟨rfl, hair, hae, ha, hb, hx, hy⟩ := hpre
  have hpu := hair.pu
  have hok := airE_ok hae
  have hcnt := hok.cnt
  obtain ⟨a, rfl⟩ := Int.eq_ofNat_of_zero_le ha.1
  obtain ⟨b, rfl⟩ := Int.eq_ofNat_of_zero_le hb.1
  obtain ⟨hg, hiv⟩ := hair.2 a (by omega)
  obtain ⟨hg2, hiv2⟩ := hair.2 b (by omega)
  have hp2 := hiv.pu
  have hp3 := hiv2.pu
  have w1 := airE_wind hae (show a < n by omega)
  have w2 := airE_wind hae (show b < n by omega)
  simp only [Proofs.Tryz.f122]
  rw [enter_mkT (Nat.le_of_ble_eq_true rfl)]
  simp (maxSteps := 4000000) only [go_sem, ↓op_move, ↓op_assign, ↓op_pick, ↓op_alloc, ↓op_box, ↓op_build, ↓op_buildSlice, ↓op_load, ↓op_store, ↓op_nilCheck, ↓op_bin, ↓op_un, ↓op_convert, ↓op_makeFunc, ↓op_makeSlice, ↓op_slice, ↓op_fieldAddr, ↓op_field, ↓op_indexAddr, ↓op_index, ↓op_extract, ↓op_lookup, ↓op_mapUpdate, ↓op_makeMap, ↓op_range, ↓op_next, ↓op_call, ↓op_builtin, ↓g_tt, ↓g_ff, ↓g_tf, ↓g_ft, ↓g_tnt, ↓g_tnf, ↓g_fnt, ↓g_fnf, ↓mkT_getD, hpu, hg, hg2, hp2, hp3, Int.toNat_natCast]
  exact ⟨⟨by omega, by omega⟩, ⟨by omega, by omega⟩, ⟨by omega, by omega, by omega, by omega, by omega, by omega, by omega, by omega, by omega⟩, VEnt.refl _⟩

theorem insIn {Γ : FuncId → Option Contract} {r : Option Nat} {k0 : K} {hp : Heap} {ck n : Nat} {g0 : Nat → Int} {get : Nat → List V} {x y : Int} {l : Loc} {Kn : V → Heap → Nat → Prop} (hX : (⟨Proofs.Tryz.prog, Γ, G0, r, k0⟩ : Cx).Ok) (hair : IsAir n get) (hae : airE n get = 0)
    (hx : -20000 ≤ x ∧ x ≤ 20000) (hy : -20000 ≤ y ∧ y ≤ 20000) (hidx : Idx n g0) (hl : hp l = some (.arr n 1 fun i => [.int .i64 (g0 i)])) (hlk : l.1 ≤ ck) (hfree : ∀ l : Loc, ck < l.1 → hp l = none)
    (hKn : ∀ (v : V) (hp' : Heap) (ck' : Nat), hp' l = some (.arr n 1 fun i => [.int .i64 (sortG (fun a b => decide (cmpV get b.toNat a.toNat x y < 0)) 1 (n - 1) g0 i)]) → (∀ l', l' ≠ l → hp' l' = hp l') → Kn v hp' ck') :
    CallT ⟨Proofs.Tryz.prog, Γ, G0, r, k0⟩ hp ck 172 [.msl l 0 n, .int .i64 0, .int .i64 n, .fn (.func 122) [] [.cptr [.sl n 5 get], .cptr [.int .i64 x, .int .i64 y]]] Kn := by
  refine CallT.inline hX Proofs.Tryz.func172 rfl foll (D := D172) (by kernel_rfl) (tab [(122, rankC)]) (tab_ok ⟨gRank1_ok, trivial⟩) fun k1 => ?_
  have hpu := hair.pu
  have hok := airE_ok hae
  have hcnt := hok.cnt
  simp only [Proofs.Tryz.f172]
  rw [app_mkT (Nat.le_of_ble_eq_true rfl)]
  simp (maxSteps := 4000000) only [go_sem, ↓op_move, ↓op_assign, ↓op_pick, ↓op_alloc, ↓op_box, ↓op_build, ↓op_buildSlice, ↓op_load, ↓op_store, ↓op_nilCheck, ↓op_bin, ↓op_un, ↓op_convert, ↓op_makeFunc, ↓op_makeSlice, ↓op_slice, ↓op_fieldAddr, ↓op_field, ↓op_indexAddr, ↓op_index, ↓op_extract, ↓op_lookup, ↓op_mapUpdate, ↓op_makeMap, ↓op_range, ↓op_next, ↓op_call, ↓op_builtin, ↓g_tt, ↓g_ff, ↓g_tf, ↓g_ft, ↓g_tnt, ↓g_tnf, ↓g_fnt, ↓g_fnf, ↓mkT_getD, hpu]
  refine ⟨inK_of (by omega) (by omega), ?_⟩
  refine RestT.loopF (β := Nat × (Nat → Int)) [(8, 9), (12, 52)] (fun s => [(8, .int .i64 s.1)]) (fun s => updH hp l (.arr n 1 fun i => [.int .i64 (s.2 i)])) (fun s => 1 ≤ s.1 ∧ s.1 ≤ n ∧ Idx n s.2 ∧ sortG (fun a b => decide (cmpV get b.toNat a.toNat x y < 0)) s.1 (n - s.1) s.2 = sortG (fun a b => decide (cmpV get b.toNat a.toNat x y < 0)) 1 (n - 1) g0)
    (fun s => n - s.1) (1, g0) ⟨Nat.le_refl 1, hcnt.1, hidx, rfl⟩ ?_ (HpLe.upd1 hl (ObjLe.refl _)) ?_
  · simp (maxSteps := 4000000) only [go_sem, ↓op_move, ↓op_assign, ↓op_pick, ↓op_alloc, ↓op_box, ↓op_build, ↓op_buildSlice, ↓op_load, ↓op_store, ↓op_nilCheck, ↓op_bin, ↓op_un, ↓op_convert, ↓op_makeFunc, ↓op_makeSlice, ↓op_slice, ↓op_fieldAddr, ↓op_field, ↓op_indexAddr, ↓op_index, ↓op_extract, ↓op_lookup, ↓op_mapUpdate, ↓op_makeMap, ↓op_range, ↓op_next, ↓op_call, ↓op_builtin, ↓g_tt, ↓g_ff, ↓g_tf, ↓g_ft, ↓g_tnt, ↓g_tnf, ↓g_fnt, ↓g_fnf, ↓mkT_getD]
    try exact rfl
  · intro ck' s hck hI
    obtain ⟨i, g⟩ := s
    obtain ⟨h1, h2, hix, hs⟩ := hI
    have h1 : 1 ≤ i := h1
    have h2 : i ≤ n := h2
    have hix : Idx n g := hix
    generalize hq0 : exC _ _ _ _ _ = gg
    by_cases hlt : i < n
    · have hd : decide ((i : Int) < (n : Int)) = true := by simp; omega
      rw [← hq0]
      clear hq0
      simp (maxSteps := 4000000) only [go_sem, ↓op_move, ↓op_assign, ↓op_pick, ↓op_alloc, ↓op_box, ↓op_build, ↓op_buildSlice, ↓op_load, ↓op_store, ↓op_nilCheck, ↓op_bin, ↓op_un, ↓op_convert, ↓op_makeFunc, ↓op_makeSlice, ↓op_slice, ↓op_fieldAddr, ↓op_field, ↓op_indexAddr, ↓op_index, ↓op_extract, ↓op_lookup, ↓op_mapUpdate, ↓op_makeMap, ↓op_range, ↓op_next, ↓op_call, ↓op_builtin, ↓g_tt, ↓g_ff, ↓g_tf, ↓g_ft, ↓g_tnt, ↓g_tnf, ↓g_fnt, ↓g_fnf, ↓mkT_getD, hd, hpu]
      refine RestT.loopF (β := Nat × (Nat → Int)) [(9, 9), (18, 52)] (fun s => [(9, .int .i64 s.1)]) (fun s => updH hp l (.arr n 1 fun i => [.int .i64 (s.2 i)])) (fun s => s.1 ≤ i ∧ Idx n s.2 ∧ insG (fun a b => decide (cmpV get b.toNat a.toNat x y < 0)) s.1 s.2 = insG (fun a b => decide (cmpV get b.toNat a.toNat x y < 0)) i g)
        (fun s => s.1) (i, g) ⟨Nat.le_refl i, hix, rfl⟩ ?_ (HpLe.refl _) ?_
      · simp (maxSteps := 4000000) only [go_sem, ↓op_move, ↓op_assign, ↓op_pick, ↓op_alloc, ↓op_box, ↓op_build, ↓op_buildSlice, ↓op_load, ↓op_store, ↓op_nilCheck, ↓op_bin, ↓op_un, ↓op_convert, ↓op_makeFunc, ↓op_makeSlice, ↓op_slice, ↓op_fieldAddr, ↓op_field, ↓op_indexAddr, ↓op_index, ↓op_extract, ↓op_lookup, ↓op_mapUpdate, ↓op_makeMap, ↓op_range, ↓op_next, ↓op_call, ↓op_builtin, ↓g_tt, ↓g_ff, ↓g_tf, ↓g_ft, ↓g_tnt, ↓g_tnf, ↓g_fnt, ↓g_fnf, ↓mkT_getD]
        try exact rfl
      · intro ck2 s2 hck2 hI2
        obtain ⟨j, g'⟩ := s2
        obtain ⟨h3, hix2, hs2⟩ := hI2
        have h3 : j ≤ i := h3
        have hix2 : Idx n g' := hix2
        have hs2 : insG (fun a b => decide (cmpV get b.toNat a.toNat x y < 0)) j g' = insG (fun a b => decide (cmpV get b.toNat a.toNat x y < 0)) i g := hs2
        have b1 := hix2 j (by omega)
        have b2 := hix2 (j - 1) (by omega)
        have hj1 : 0 < j → ((j : Int) - 1).toNat = j - 1 := fun h => by omega
        generalize hq1 : exC _ _ _ _ _ = gg
        by_cases hj : 0 < j
        · have hdj : decide ((0 : Int) < (j : Int)) = true := by simp; omega
          have hj1 := hj1 hj
          cases hc : decide (cmpV get (g' (j - 1)).toNat (g' j).toNat x y < 0)
          · rw [← hq1]
            clear hq1
            simp (maxSteps := 4000000) only [go_sem, ↓op_move, ↓op_assign, ↓op_pick, ↓op_alloc, ↓op_box, ↓op_build, ↓op_buildSlice, ↓op_load, ↓op_store, ↓op_nilCheck, ↓op_bin, ↓op_un, ↓op_convert, ↓op_makeFunc, ↓op_makeSlice, ↓op_slice, ↓op_fieldAddr, ↓op_field, ↓op_indexAddr, ↓op_index, ↓op_extract, ↓op_lookup, ↓op_mapUpdate, ↓op_makeMap, ↓op_range, ↓op_next, ↓op_call, ↓op_builtin, ↓g_tt, ↓g_ff, ↓g_tf, ↓g_ft, ↓g_tnt, ↓g_tnf, ↓g_fnt, ↓g_fnf, ↓mkT_getD, hdj, hpu, hj1, hc, Int.toNat_natCast, Nat.zero_add]
            have hins : g' = insG (fun a b => decide (cmpV get b.toNat a.toNat x y < 0)) i g := by rw [← hs2]; exact (insG_no (.inr hc)).symm
            refine ⟨⟨by omega, by omega⟩, inK_of (by omega) (by omega), ⟨by omega, by omega⟩, ⟨hair, hae, b1, b2, hx, hy⟩, inK_of (by omega) (by omega), by omega, (i + 1, g'), ⟨by show 1 ≤ i + 1; omega, hlt, hix2, ?_⟩, by show n - (i + 1) < n - i; omega, rfl, HpLe.refl _⟩
            rw [← hs, sortG_step hlt, ← hins]
          · rw [← hq1]
            clear hq1
            simp (maxSteps := 4000000) only [go_sem, ↓op_move, ↓op_assign, ↓op_pick, ↓op_alloc, ↓op_box, ↓op_build, ↓op_buildSlice, ↓op_load, ↓op_store, ↓op_nilCheck, ↓op_bin, ↓op_un, ↓op_convert, ↓op_makeFunc, ↓op_makeSlice, ↓op_slice, ↓op_fieldAddr, ↓op_field, ↓op_indexAddr, ↓op_index, ↓op_extract, ↓op_lookup, ↓op_mapUpdate, ↓op_makeMap, ↓op_range, ↓op_next, ↓op_call, ↓op_builtin, ↓g_tt, ↓g_ff, ↓g_tf, ↓g_ft, ↓g_tnt, ↓g_tnf, ↓g_fnt, ↓g_fnf, ↓mkT_getD, hdj, hpu, hj1, hc, Int.toNat_natCast, Nat.zero_add]
            refine ⟨⟨by omega, by omega⟩, inK_of (by omega) (by omega), ⟨by omega, by omega⟩, ⟨hair, hae, b1, b2, hx, hy⟩, inK_of (by omega) (by omega), inK_of (by omega) (by omega), ⟨by omega, by omega⟩, ⟨by omega, by omega⟩, ⟨by omega, by omega⟩, ⟨by omega, by omega⟩, inK_of (by omega) (by omega), by omega,
              (j - 1, swapG g' j), ⟨by show j - 1 ≤ i; omega, hix2.swap (by omega), ?_⟩, by show j - 1 < j; omega, ?_, ?_⟩
            · rw [← hs2]; exact (insG_yes hj hc).symm
            · simp only [Int.natCast_sub (show 1 ≤ j by omega)]; rfl
            · have e2 : ∀ a b : AObj, updH (updH hp l a) l b = updH hp l b := fun a b => by funext l'; simp only [updH_app]; split <;> rfl
              simp only [e2]
              refine HpLe.same (objLe_arr fun k hk => ?_)
              unfold swapG
              rw [if_neg (show ¬ j - 1 = j by omega)]
              by_cases k1 : k = j
              · rw [if_pos k1, if_neg (show ¬ k = j - 1 by omega), if_pos k1]
              · rw [if_neg k1]
                by_cases k2 : k = j - 1
                · rw [if_pos k2, if_pos k2]; rfl
                · rw [if_neg k2, if_neg k2, if_neg k1]
        · have hdj : decide ((0 : Int) < (j : Int)) = false := by simp; omega
          rw [← hq1]
          clear hq1
          simp (maxSteps := 4000000) only [go_sem, ↓op_move, ↓op_assign, ↓op_pick, ↓op_alloc, ↓op_box, ↓op_build, ↓op_buildSlice, ↓op_load, ↓op_store, ↓op_nilCheck, ↓op_bin, ↓op_un, ↓op_convert, ↓op_makeFunc, ↓op_makeSlice, ↓op_slice, ↓op_fieldAddr, ↓op_field, ↓op_indexAddr, ↓op_index, ↓op_extract, ↓op_lookup, ↓op_mapUpdate, ↓op_makeMap, ↓op_range, ↓op_next, ↓op_call, ↓op_builtin, ↓g_tt, ↓g_ff, ↓g_tf, ↓g_ft, ↓g_tnt, ↓g_tnf, ↓g_fnt, ↓g_fnf, ↓mkT_getD, hdj, hpu]
          have hins : g' = insG (fun a b => decide (cmpV get b.toNat a.toNat x y < 0)) i g := by rw [← hs2]; exact (insG_no (.inl (by omega))).symm
          refine ⟨inK_of (by omega) (by omega), by omega, (i + 1, g'), ⟨by show 1 ≤ i + 1; omega, hlt, hix2, ?_⟩, by show n - (i + 1) < n - i; omega, rfl, HpLe.refl _⟩
          rw [← hs, sortG_step hlt, ← hins]
    · have hd : decide ((i : Int) < (n : Int)) = false := by simp; omega
      have hni : i = n := by omega
      subst hni
      rw [sortG_end (by omega)] at hs
      have hs : g = sortG (fun a b => decide (cmpV get b.toNat a.toNat x y < 0)) 1 (i - 1) g0 := hs
      rw [← hq0]
      clear hq0
      simp (maxSteps := 4000000) only [go_sem, ↓op_move, ↓op_assign, ↓op_pick, ↓op_alloc, ↓op_box, ↓op_build, ↓op_buildSlice, ↓op_load, ↓op_store, ↓op_nilCheck, ↓op_bin, ↓op_un, ↓op_convert, ↓op_makeFunc, ↓op_makeSlice, ↓op_slice, ↓op_fieldAddr, ↓op_field, ↓op_indexAddr, ↓op_index, ↓op_extract, ↓op_lookup, ↓op_mapUpdate, ↓op_makeMap, ↓op_range, ↓op_next, ↓op_call, ↓op_builtin, ↓g_tt, ↓g_ff, ↓g_tf, ↓g_ft, ↓g_tnt, ↓g_tnf, ↓g_fnt, ↓g_fnf, ↓mkT_getD, hd, hpu]
      exact hKn _ _ _ (by rw [updH_same, ← hs]) fun l' hl' => updH_ne hl'

def SortKn (n : Nat) (get : Nat → List V) (x y : Int) (g0 : Nat → Int) (hp : Heap) (l : Loc) (hp' : Heap) : Prop :=
  hp' l = some (.arr n 1 fun i => [.int .i64 (sortG (fun a b => decide (cmpV get b.toNat a.toNat x y < 0)) 1 (n - 1) g0 i)]) ∧ ∀ l', l' ≠ l → hp' l' = hp l'

theorem stabIn {Γ : FuncId → Option Contract} {r : Option Nat} {k0 : K} {hp : Heap} {ck n : Nat} {g0 : Nat → Int} {get : Nat → List V} {x y : Int} {l : Loc} {Kn : V → Heap → Nat → Prop} (hX : (⟨Proofs.Tryz.prog, Γ, G0, r, k0⟩ : Cx).Ok) (hair : IsAir n get) (hae : airE n get = 0)
    (hx : -20000 ≤ x ∧ x ≤ 20000) (hy : -20000 ≤ y ∧ y ≤ 20000) (hidx : Idx n g0) (hl : hp l = some (.arr n 1 fun i => [.int .i64 (g0 i)])) (hlk : l.1 ≤ ck) (hfree : ∀ l : Loc, ck < l.1 → hp l = none)
    (hKn : ∀ (v : V) (hp' : Heap) (ck' : Nat), SortKn n get x y g0 hp l hp' → Kn v hp' ck') :
    CallT ⟨Proofs.Tryz.prog, Γ, G0, r, k0⟩ hp ck 152 [.msl l 0 n, .int .i64 n, .fn (.func 122) [] [.cptr [.sl n 5 get], .cptr [.int .i64 x, .int .i64 y]]] Kn := by
  refine CallT.inline hX Proofs.Tryz.func152 rfl foll (D := D152) (by kernel_rfl) (tab []) (tab_ok trivial) fun k1 => ?_
  have hpu := hair.pu
  have hok := airE_ok hae
  have hcnt := hok.cnt
  have hd : decide ((20 : Int) ≤ (n : Int)) = false := by simp; omega
  have hd2 : decide ((20 : Int) < (n : Int)) = false := by simp; omega
  simp only [Proofs.Tryz.f152]
  rw [app_mkT (Nat.le_of_ble_eq_true rfl)]
  simp (maxSteps := 4000000) only [go_sem, ↓op_move, ↓op_assign, ↓op_pick, ↓op_alloc, ↓op_box, ↓op_build, ↓op_buildSlice, ↓op_load, ↓op_store, ↓op_nilCheck, ↓op_bin, ↓op_un, ↓op_convert, ↓op_makeFunc, ↓op_makeSlice, ↓op_slice, ↓op_fieldAddr, ↓op_field, ↓op_indexAddr, ↓op_index, ↓op_extract, ↓op_lookup, ↓op_mapUpdate, ↓op_makeMap, ↓op_range, ↓op_next, ↓op_call, ↓op_builtin, ↓g_tt, ↓g_ff, ↓g_tf, ↓g_ft, ↓g_tnt, ↓g_tnf, ↓g_fnt, ↓g_fnf, ↓mkT_getD, hpu]
  refine RestT.loopF (β := Unit) [(7, 8), (11, 22)] (fun _ => [(7, .int .i64 0), (8, .int .i64 20)]) (fun _ => hp) (fun _ => True) (fun _ => 0) () trivial ?_ (HpLe.refl _) ?_
  · simp (maxSteps := 4000000) only [go_sem, ↓op_move, ↓op_assign, ↓op_pick, ↓op_alloc, ↓op_box, ↓op_build, ↓op_buildSlice, ↓op_load, ↓op_store, ↓op_nilCheck, ↓op_bin, ↓op_un, ↓op_convert, ↓op_makeFunc, ↓op_makeSlice, ↓op_slice, ↓op_fieldAddr, ↓op_field, ↓op_indexAddr, ↓op_index, ↓op_extract, ↓op_lookup, ↓op_mapUpdate, ↓op_makeMap, ↓op_range, ↓op_next, ↓op_call, ↓op_builtin, ↓g_tt, ↓g_ff, ↓g_tf, ↓g_ft, ↓g_tnt, ↓g_tnf, ↓g_fnt, ↓g_fnf, ↓mkT_getD]
    try exact ⟨rfl, rfl⟩
  · intro ck' s hck hI
    simp (maxSteps := 4000000) only [go_sem, ↓op_move, ↓op_assign, ↓op_pick, ↓op_alloc, ↓op_box, ↓op_build, ↓op_buildSlice, ↓op_load, ↓op_store, ↓op_nilCheck, ↓op_bin, ↓op_un, ↓op_convert, ↓op_makeFunc, ↓op_makeSlice, ↓op_slice, ↓op_fieldAddr, ↓op_field, ↓op_indexAddr, ↓op_index, ↓op_extract, ↓op_lookup, ↓op_mapUpdate, ↓op_makeMap, ↓op_range, ↓op_next, ↓op_call, ↓op_builtin, ↓g_tt, ↓g_ff, ↓g_tf, ↓g_ft, ↓g_tnt, ↓g_tnf, ↓g_fnt, ↓g_fnf, ↓mkT_getD, hd, hpu]
    refine .inl fun hX => insIn hX hair hae hx hy hidx hl (by omega) (fun l' hl' => hfree l' (by omega)) fun v hp' ck2 h1 h2 => ?_
    refine RestT.loopF (β := Unit) [(6, 9), (28, 62)] (fun _ => [(6, .int .i64 20)]) (fun _ => hp') (fun _ => True) (fun _ => 0) () trivial ?_ (HpLe.refl _) ?_
    · simp (maxSteps := 4000000) only [go_sem, ↓op_move, ↓op_assign, ↓op_pick, ↓op_alloc, ↓op_box, ↓op_build, ↓op_buildSlice, ↓op_load, ↓op_store, ↓op_nilCheck, ↓op_bin, ↓op_un, ↓op_convert, ↓op_makeFunc, ↓op_makeSlice, ↓op_slice, ↓op_fieldAddr, ↓op_field, ↓op_indexAddr, ↓op_index, ↓op_extract, ↓op_lookup, ↓op_mapUpdate, ↓op_makeMap, ↓op_range, ↓op_next, ↓op_call, ↓op_builtin, ↓g_tt, ↓g_ff, ↓g_tf, ↓g_ft, ↓g_tnt, ↓g_tnf, ↓g_fnt, ↓g_fnf, ↓mkT_getD]
      try exact rfl
    · intro ck3 s hck hI
      simp (maxSteps := 4000000) only [go_sem, ↓op_move, ↓op_assign, ↓op_pick, ↓op_alloc, ↓op_box, ↓op_build, ↓op_buildSlice, ↓op_load, ↓op_store, ↓op_nilCheck, ↓op_bin, ↓op_un, ↓op_convert, ↓op_makeFunc, ↓op_makeSlice, ↓op_slice, ↓op_fieldAddr, ↓op_field, ↓op_indexAddr, ↓op_index, ↓op_extract, ↓op_lookup, ↓op_mapUpdate, ↓op_makeMap, ↓op_range, ↓op_next, ↓op_call, ↓op_builtin, ↓g_tt, ↓g_ff, ↓g_tf, ↓g_ft, ↓g_tnt, ↓g_tnf, ↓g_fnt, ↓g_fnf, ↓mkT_getD, hd2, hpu]
      exact hKn _ _ _ ⟨h1, h2⟩

theorem sortIn {Γ : FuncId → Option Contract} {r : Option Nat} {k0 : K} {hp : Heap} {ck n : Nat} {g0 : Nat → Int} {get : Nat → List V} {x y : Int} {l : Loc} {Kn : V → Heap → Nat → Prop} (hX : (⟨Proofs.Tryz.prog, Γ, G0, r, k0⟩ : Cx).Ok) (hair : IsAir n get) (hae : airE n get = 0)
    (hx : -20000 ≤ x ∧ x ≤ 20000) (hy : -20000 ≤ y ∧ y ≤ 20000) (hidx : Idx n g0) (hl : hp l = some (.arr n 1 fun i => [.int .i64 (g0 i)])) (hlk : l.1 ≤ ck) (hfree : ∀ l : Loc, ck < l.1 → hp l = none)
    (hKn : ∀ (v : V) (hp' : Heap) (ck' : Nat), SortKn n get x y g0 hp l hp' → Kn v hp' ck') :
    CallT ⟨Proofs.Tryz.prog, Γ, G0, r, k0⟩ hp ck 121 [.msl l 0 n, .fn (.func 122) [] [.cptr [.sl n 5 get], .cptr [.int .i64 x, .int .i64 y]]] Kn := by
  refine CallT.inline hX Proofs.Tryz.func121 rfl foll (D := D121) (by kernel_rfl) (tab []) (tab_ok trivial) fun k1 => ?_
  have hpu := hair.pu
  simp only [Proofs.Tryz.f121]
  rw [app_mkT (Nat.le_of_ble_eq_true rfl)]
  simp (maxSteps := 4000000) only [go_sem, ↓op_move, ↓op_assign, ↓op_pick, ↓op_alloc, ↓op_box, ↓op_build, ↓op_buildSlice, ↓op_load, ↓op_store, ↓op_nilCheck, ↓op_bin, ↓op_un, ↓op_convert, ↓op_makeFunc, ↓op_makeSlice, ↓op_slice, ↓op_fieldAddr, ↓op_field, ↓op_indexAddr, ↓op_index, ↓op_extract, ↓op_lookup, ↓op_mapUpdate, ↓op_makeMap, ↓op_range, ↓op_next, ↓op_call, ↓op_builtin, ↓g_tt, ↓g_ff, ↓g_tf, ↓g_ft, ↓g_tnt, ↓g_tnf, ↓g_fnt, ↓g_fnf, ↓mkT_getD, hpu, hl]
  exact ⟨Nat.zero_add n, .inl fun hX => stabIn hX hair hae hx hy hidx hl (by omega) (fun l' hl' => hfree l' (by omega)) fun v hp' ck2 h => hKn _ _ _ h⟩
end Go.Fly.Tryz
