/- A layer is split: what is put into an array of the call's own. -/
import Derived.Test.YtmlknpghkclffaaGreatDoorSYAEE
import Derived.Test.YtmlknpghkclffaaGreatDoorAL
set_option linter.unusedSimpArgs false
set_option linter.unusedVariables false
set_option maxRecDepth 100000
set_option maxHeartbeats 2000000
namespace Go.Fly.Tryz
open Go

theorem repIn {Γ : FuncId → Option Contract} {r : Option Nat} {k0 : K} {hp : Heap} {ck n i : Nat} {get gv : Nat → List V} {l : Loc} {Kn : V → Heap → Nat → Prop} (hX : (⟨Proofs.Tryz.prog, Γ, G0, r, k0⟩ : Cx).Ok) (hair : IsAir n get) (hv : IsAir 2 gv) (hn8 : n ≤ 8) (hi : i < n)
    (hl : hp l = some (.arr n 5 get)) (hlk : l.1 ≤ ck) (hf9 : hp (ck, 900) = none) (hfree : ∀ l : Loc, ck < l.1 → hp l = none)
    (hKn : ∀ (g : Nat → List V) (hp' : Heap) (ck' : Nat), (∀ j, j < n + 1 → g j = repG get gv i j) → Kn (.sl (n + 1) 5 g) hp' ck') :
    CallT ⟨Proofs.Tryz.prog, Γ, G0, r, k0⟩ hp ck 89 [.msl l 0 n, .int .i64 i, .int .i64 ((i : Int) + 1), .sl 2 5 gv] Kn := by
  refine CallT.killB (CallT.buf 900 hl (by omega) hf9 fun c hc => ?_)
  refine CallT.inline hX Proofs.Tryz.func89 rfl foll (D := D89) (by kernel_rfl) (tab []) (tab_ok trivial) fun k1 => ?_
  have hpu := hair.pu
  have hpv := hv.pu
  have f1 : ∀ d, hp (ck + 1, d) = none := fun d => hfree _ (by show ck < ck + 1; omega)
  have f6 : ∀ d, hp (ck + 1 + 1 + 1 + 1 + 1 + 1, d) = none := fun d => hfree _ (by show ck < ck + 1 + 1 + 1 + 1 + 1 + 1; omega)
  have n6 : ∀ d, ((ck + 1 + 1 + 1 + 1 + 1 + 1, d) = l) = False := fun d => eq_false fun e => by rw [← e] at hlk; simp at hlk; omega
  have hd0 : decide ((i : Int) = (i : Int) + 1) = false := by simp; omega
  have hp0 : ((i : Int) = (i : Int) + 1) = False := eq_false (by omega)
  have hti : ((i : Int) + 1).toNat = i + 1 := by omega
  have hz : 0 + i = i := Nat.zero_add _
  have hs0 : i - 0 = i := Nat.sub_zero _
  generalize hG : (fun j => if j < n then get j else List.replicate 5 V.top) = G
  have hGj : ∀ j, j < n → G j = get j := fun j hj => by rw [← hG]; exact if_pos hj
  have hone : ∀ i, i < 2 → ∀ v, v ∈ gv i → (Pu v ∨ isMsl v = true) ∧ oneC v = true := fun k hk v hv' => by
    obtain ⟨q1, q2⟩ := hv.2 k hk
    rw [q1] at hv'
    exact ⟨.inl (ones5 q2.pu v hv').1, (ones5 q2.pu v hv').2⟩
  have hrep := isAir_rep hair hv (by omega) hi
  have hfin : ∀ (L : Loc) (m c' : Nat) (g : Nat → List V) (h2 : Heap) (ck2 : Nat), m = n + 1 → h2 L = some (.buf c' 5 g) → (∀ j, j < n + 1 → g (0 + j) = repG get gv i j) →
      ∃ l off n c sz get, V.bsl L 0 m = V.bsl l off n ∧ h2 l = some (.buf c sz get) ∧ (∀ (i j : Nat) (v : V), i < n → (get (off + i))[j]? = some v → Pu v) ∧ Kn (.sl n sz fun i => get (off + i)) (updH h2 l .dead) ck2 := by
    intro L m c' g h2 ck2 hm hL hg
    subst hm
    refine ⟨L, 0, n + 1, c', 5, g, rfl, hL, fun a b v ha hb => ?_, hKn _ _ _ hg⟩
    rw [hg a ha] at hb
    obtain ⟨q1, q2⟩ := hrep.2 a ha
    rw [q1] at hb
    exact (ones5 q2.pu v (List.mem_of_getElem? hb)).1
  by_cases hlast : i + 1 = n
  · have hd : decide ((i : Int) + 1 = (n : Int)) = true := by simp; omega
    have hd2 : decide (((i + 2 : Nat) : Int) < (n : Int)) = false := by simp; omega
    have hp2 : (((i + 2 : Nat) : Int) < (n : Int)) = False := eq_false (by omega)
    simp only [Proofs.Tryz.f89]
    simp (maxSteps := 4000000) only [go_sem, ↓op_move, ↓op_assign, ↓op_pick, ↓op_alloc, ↓op_box, ↓op_build, ↓op_buildSlice, ↓op_load, ↓op_store, ↓op_nilCheck, ↓op_bin, ↓op_un, ↓op_convert, ↓op_makeFunc, ↓op_makeSlice, ↓op_slice, ↓op_fieldAddr, ↓op_field, ↓op_indexAddr, ↓op_index, ↓op_extract, ↓op_lookup, ↓op_mapUpdate, ↓op_makeMap, ↓op_range, ↓op_next, ↓op_call, ↓op_builtin, ↓g_tt, ↓g_ff, ↓g_tf, ↓g_ft, ↓g_tnt, ↓g_tnf, ↓g_fnt, ↓g_fnf, ↓mkT_getD, hpu, hpv, f1, hd, hz, hs0, f6, n6, hd0, hp0, hti, hd2, hp2]
    refine ⟨⟨by omega, by omega, by omega, by omega, by omega⟩, ⟨by omega, by omega, by omega⟩, ⟨by omega, by omega, by omega, hone⟩, fun hic => ?_, fun hic c' hc' => ?_⟩
    · exact hfin _ _ _ _ _ _ (by omega) (if_pos rfl) fun j hj => by
        simp only [bufPut, repG, Nat.zero_add]
        by_cases h1 : j < i
        · rw [if_neg (by omega), if_pos h1, hGj j (by omega)]
        · rw [if_pos (by omega), if_neg h1]
          by_cases h2 : j = i
          · rw [if_pos h2, h2, Nat.sub_self]
          · rw [if_neg h2, if_pos (by omega), show j - i = 1 by omega]
    · exact hfin _ _ _ _ _ _ (by omega) (if_pos rfl) fun j hj => by
        simp only [repG, Nat.zero_add]
        by_cases h1 : j < i
        · rw [if_pos h1, if_pos h1, hGj j (by omega)]
        · rw [if_neg h1, if_pos (by omega), if_neg h1]
          by_cases h2 : j = i
          · rw [if_pos h2, h2, Nat.sub_self]
          · rw [if_neg h2, if_pos (by omega), show j - i = 1 by omega]
  · have hd : decide ((i : Int) + 1 = (n : Int)) = false := by simp; omega
    have hp3 : ((i : Int) + 1 = (n : Int)) = False := eq_false (by omega)
    have f8 : ∀ d, hp (ck + 1 + 1 + 1 + 1 + 1 + 1 + 1 + 1, d) = none := fun d => hfree _ (by show ck < ck + 1 + 1 + 1 + 1 + 1 + 1 + 1 + 1; omega)
    have n8 : ∀ d, ((ck + 1 + 1 + 1 + 1 + 1 + 1 + 1 + 1, d) = l) = False := fun d => eq_false fun e => by rw [← e] at hlk; simp at hlk; omega
    have htot : ((i : Int) + 2 + ((n - (i + 1) : Nat) : Int)) = ((n + 1 : Nat) : Int) := by omega
    have hsub : (((n + 1 : Nat) : Int) - (i : Int)) = ((n + 1 - i : Nat) : Int) := by omega
    have hnn : i + (n + 1 - i) = n + 1 := by omega
    have honeG : ∀ k, k < n - (i + 1) → ∀ v, v ∈ G (i + 1 + k) → (Pu v ∨ isMsl v = true) ∧ oneC v = true := fun k hk v hv' => by
      rw [hGj _ (by omega)] at hv'
      obtain ⟨q1, q2⟩ := hair.2 (i + 1 + k) (by omega)
      rw [q1] at hv'
      exact ⟨.inl (ones5 q2.pu v hv').1, (ones5 q2.pu v hv').2⟩
    have hd4 : decide ((i : Int) + 2 ≤ (i : Int) + 1) = false := by simp
    have hp5 : ((i : Int) + 2 ≤ (i : Int) + 1) = False := eq_false (by omega)
    have hti2 : ((i : Int) + 2).toNat = i + 2 := by omega
    have hnm : n + 1 - (i + 2) = n - (i + 1) := by omega
    by_cases hroom : n + 1 ≤ c
    · have hd3 : decide ((c : Int) < ((n + 1 : Nat) : Int)) = false := by simp; omega
      have hp4 : ((c : Int) < ((n + 1 : Nat) : Int)) = False := eq_false (by omega)
      simp only [Proofs.Tryz.f89]
      simp (maxSteps := 4000000) only [go_sem, ↓op_move, ↓op_assign, ↓op_pick, ↓op_alloc, ↓op_box, ↓op_build, ↓op_buildSlice, ↓op_load, ↓op_store, ↓op_nilCheck, ↓op_bin, ↓op_un, ↓op_convert, ↓op_makeFunc, ↓op_makeSlice, ↓op_slice, ↓op_fieldAddr, ↓op_field, ↓op_indexAddr, ↓op_index, ↓op_extract, ↓op_lookup, ↓op_mapUpdate, ↓op_makeMap, ↓op_range, ↓op_next, ↓op_call, ↓op_builtin, ↓g_tt, ↓g_ff, ↓g_tf, ↓g_ft, ↓g_tnt, ↓g_tnf, ↓g_fnt, ↓g_fnf, ↓mkT_getD, hpu, hpv, f1, hd, hp3, hz, hs0, f6, n6, hd0, hp0, hti, f8, n8, htot, hsub, hnn, hd3, hp4, Int.toNat_natCast, Nat.sub_zero, Nat.zero_add, hti2, hnm, hd4, hp5]
      refine ⟨⟨by omega, by omega, by omega, by omega, by omega⟩, ⟨by omega, by omega, by omega⟩, inK_of (by omega) (by omega), ⟨by omega, by omega, by omega, by omega, by omega⟩, inK_of (by omega) (by omega), ⟨by omega, by omega, by omega⟩, inK_of (by omega) (by omega),
        inK_of (by omega) (by omega), ⟨by omega, by omega, by omega, by omega, by omega⟩, .inr (ext_overlaps (fn := Proofs.Tryz.f142) (tS := 29) (tR := 4) (e := 108) rfl (by decide) rfl (by rfl) (by rfl) (by kernel_rfl) (by kernel_rfl) (updH_same _ _ _) (by omega) (by omega) ?_)⟩
      simp (maxSteps := 4000000) only [go_sem, ↓op_move, ↓op_assign, ↓op_pick, ↓op_alloc, ↓op_box, ↓op_build, ↓op_buildSlice, ↓op_load, ↓op_store, ↓op_nilCheck, ↓op_bin, ↓op_un, ↓op_convert, ↓op_makeFunc, ↓op_makeSlice, ↓op_slice, ↓op_fieldAddr, ↓op_field, ↓op_indexAddr, ↓op_index, ↓op_extract, ↓op_lookup, ↓op_mapUpdate, ↓op_makeMap, ↓op_range, ↓op_next, ↓op_call, ↓op_builtin, ↓g_tt, ↓g_ff, ↓g_tf, ↓g_ft, ↓g_tnt, ↓g_tnf, ↓g_fnt, ↓g_fnf, ↓mkT_getD, hpu, hpv, f1, hd, hp3, hz, hs0, f6, n6, hd0, hp0, hti, f8, n8, htot, hsub, hnn, hd3, hp4, Int.toNat_natCast, Nat.sub_zero, Nat.zero_add, hti2, hnm, hd4, hp5]
      refine ⟨inK_of (by omega) (by omega), ⟨by omega, by omega, by omega, by omega, by omega⟩, ⟨by omega, by omega, by omega, by omega, by omega⟩, ⟨by omega, by omega, by omega, honeG⟩, ⟨by omega, by omega, by omega, by omega, by omega⟩, ⟨by omega, by omega, hone⟩, ?_⟩
      refine hfin _ _ _ _ _ _ rfl (if_pos rfl) fun j hj => ?_
      simp only [bufPut, repG, Nat.zero_add]
      by_cases h1 : j < i
      · rw [if_neg (by omega), if_neg (by omega), if_pos h1, hGj j (by omega)]
      · by_cases h2 : j = i
        · rw [if_pos (by omega), if_neg h1, if_pos h2, h2, Nat.sub_self]
        · by_cases h3 : j = i + 1
          · rw [if_pos (by omega), if_neg h1, if_neg h2, if_pos h3, show j - i = 1 by omega]
          · rw [if_neg (by omega), if_pos (by omega), if_neg h1, if_neg h2, if_neg h3, hGj _ (by omega), show i + 1 + (j - (i + 2)) = j - 1 by omega]
    · have hd3 : decide ((c : Int) < ((n + 1 : Nat) : Int)) = true := by simp; omega
      have hp4 : ((c : Int) < ((n + 1 : Nat) : Int)) = True := eq_true (by omega)
      simp only [Proofs.Tryz.f89]
      simp (maxSteps := 4000000) only [go_sem, ↓op_move, ↓op_assign, ↓op_pick, ↓op_alloc, ↓op_box, ↓op_build, ↓op_buildSlice, ↓op_load, ↓op_store, ↓op_nilCheck, ↓op_bin, ↓op_un, ↓op_convert, ↓op_makeFunc, ↓op_makeSlice, ↓op_slice, ↓op_fieldAddr, ↓op_field, ↓op_indexAddr, ↓op_index, ↓op_extract, ↓op_lookup, ↓op_mapUpdate, ↓op_makeMap, ↓op_range, ↓op_next, ↓op_call, ↓op_builtin, ↓g_tt, ↓g_ff, ↓g_tf, ↓g_ft, ↓g_tnt, ↓g_tnf, ↓g_fnt, ↓g_fnf, ↓mkT_getD, hpu, hpv, f1, hd, hp3, hz, hs0, f6, n6, hd0, hp0, hti, f8, n8, htot, hsub, hnn, hd3, hp4, Int.toNat_natCast, Nat.sub_zero, Nat.zero_add, hti2, hnm, hd4, hp5]
      refine ⟨⟨by omega, by omega, by omega, by omega, by omega⟩, ⟨by omega, by omega, by omega⟩, inK_of (by omega) (by omega), ⟨by omega, by omega, by omega, by omega, by omega⟩, inK_of (by omega) (by omega), ⟨by omega, by omega, by omega⟩, inK_of (by omega) (by omega),
        ⟨by omega, by omega, by omega, by omega, by omega⟩, fun c' hc' => ⟨⟨by omega, by omega, by omega, by omega, by omega⟩, ⟨by omega, by omega, hone⟩, inK_of (by omega) (by omega), ⟨by omega, by omega, by omega, by omega, by omega⟩, ⟨by omega, by omega, by omega, by omega, by omega⟩, ⟨by omega, by omega, by omega, honeG⟩, ?_⟩⟩
      refine hfin _ _ _ _ _ _ rfl (if_pos rfl) fun j hj => ?_
      simp only [bufPut, repG, Nat.zero_add]
      by_cases h1 : j < i
      · rw [if_neg (by omega), if_neg (by omega), if_pos h1, if_pos h1, hGj j (by omega)]
      · by_cases h2 : j = i
        · rw [if_neg (by omega), if_pos (by omega), if_neg h1, if_pos h2, h2, Nat.sub_self]
        · by_cases h3 : j = i + 1
          · rw [if_neg (by omega), if_pos (by omega), if_neg h1, if_neg h2, if_pos h3, show j - i = 1 by omega]
          · rw [if_pos (by omega), if_neg h1, if_neg h2, if_neg h3, hGj _ (by omega), show i + 1 + (j - (i + 2)) = j - 1 by omega]

theorem splEnd {n i : Nat} {get gv g : Nat → List V} {h : Int} {hp' : Heap} (hair : IsAir n get) (hgv : IsAir 2 gv) (hn : n ≤ 1000000) (hi : i < n) (hsi : splI n get h = i) (hE : splE n get h = 0) (h0 : gv 0 = splV n get h 0) (h1 : gv 1 = splV n get h 1)
    (hg : ∀ j, j < n + 1 → g j = repG get gv i j) :
    VEnt (.tup [frz 4 hp' (.sl (n + 1) 5 g), .int .i64 0]) (if ¬ splE n get h = 0 then .tup [.nils, .int .i64 (splE n get h)] else .tup [.sl (n + 1) 5 (repG get (splV n get h) (splI n get h)), .int .i64 0]) := by
  rw [if_neg (by simp [hE]), hsi]
  have hrep := isAir_rep hair hgv hn hi
  have hgr : ∀ j, repG get (splV n get h) i j = repG get gv i j := fun j => by simp only [repG, h0, h1]
  have hpu : Pu (.sl (n + 1) 5 g) := pu_sl.2 fun j hj v hv => by
    rw [hg j hj, (hrep.2 j hj).1] at hv
    exact (ones5 (hrep.2 j hj).2.pu v hv).1
  rw [frz_pu hpu]
  exact VEnt.tup ⟨VEnt.sl fun j hj => by rw [hg j hj, hgr j], VEnt.refl _, trivial⟩

theorem gSplit_ok : Holds Proofs.Tryz.prog G0 20 splitC := by
  refine Holds.of_exC D20 Proofs.Tryz.func20 rfl foll (by kernel_rfl) (tab [(27, airC), (83, firstC), (84, withinC), (85, atC), (86, whenC), (87, ownLayC), (88, mapLayC 90 87), (iceKey 87, iceC), (inlKey 88, iceC)]) (tab_ok ⟨aAir_ok, aFirst_ok, aWithin_ok, aAt_ok, aWhen_ok, aOwn_ok, aMapLay_ok, ice_holds, ice_holds, trivial⟩) G0_ok fun k0 rl args hpu hpre => ?_
  unfold splitC at hpre ⊢
  split at hpre
  rotate_left
  · exact hpre.elim
  rename_i n sz get h
  obtain ⟨rfl, hair, hn⟩ := hpre
  have hpu := hair.pu
  by_cases he1 : spl1 n get h = 0
  · have hz1 := firstL_zero.1 he1
    have h1 : airE n get = 0 := hz1 _ (by simp)
    have hh : 1 ≤ h ∧ h ≤ 10000 := rng_zero.1 (hz1 _ (by simp))
    have hok := airE_ok h1
    have hcnt := hok.cnt
    obtain ⟨i, hi, hat⟩ := atE_ok hok (show h ≤ 20000 by omega)
    have hsi : splI n get h = i := by unfold splI; rw [hat]; rfl
    obtain ⟨hg, hiv⟩ := hair.2 i hi
    have hp2 := hiv.pu
    have hd1 : decide (firstL [airE n get, rng h 1 10000] = 0) = true := decide_eq_true he1
    have hlay : ∀ i, i < n → inN get i 4 ≤ 1000000 ∧ (-1000 ≤ cell get i 2 ∧ cell get i 2 ≤ 1000) ∧ (-1000 ≤ cell get i 3 ∧ cell get i 3 ≤ 1000) := fun i hi => by
      have := hok.same i hi
      have := hok.bands
      have := airE_wind h1 hi
      omega
    have hb := hlay i hi
    have hth := hok.th i hi
    have hbb := bot_bd hok (Nat.le_of_lt hi)
    obtain ⟨eb, heb⟩ : ∃ b, botE get i = b := ⟨_, rfl⟩
    rw [heb] at hbb
    have hA : splA n get h = h - eb := by unfold splA; rw [hsi, heb]
    have h2e : spl2 n get h = firstL [err (decide (eb = h)) 9, err (decide ((n : Int) = 8)) 5] := by unfold spl2; rw [hsi, heb]
    by_cases he2 : spl2 n get h = 0
    · have hd2 : decide (firstL [err (decide (eb = h)) 9, err (decide ((n : Int) = 8)) 5] = 0) = true := decide_eq_true (h2e ▸ he2)
      by_cases he3 : 2000 < h - eb
      · have hd3 : decide (2000 < h - eb) = true := by simpa using he3
        have hE : splE n get h = 4 := by unfold splE; rw [if_neg (by simp [he1]), if_neg (by simp [he2]), hA, if_pos he3]
        simp only [Proofs.Tryz.f20]
        rw [enter_mkT (Nat.le_of_ble_eq_true rfl)]
        simp (maxSteps := 4000000) only [go_sem, ↓op_move, ↓op_assign, ↓op_pick, ↓op_alloc, ↓op_box, ↓op_build, ↓op_buildSlice, ↓op_load, ↓op_store, ↓op_nilCheck, ↓op_bin, ↓op_un, ↓op_convert, ↓op_makeFunc, ↓op_makeSlice, ↓op_slice, ↓op_fieldAddr, ↓op_field, ↓op_indexAddr, ↓op_index, ↓op_extract, ↓op_lookup, ↓op_mapUpdate, ↓op_makeMap, ↓op_range, ↓op_next, ↓op_call, ↓op_builtin, ↓g_tt, ↓g_ff, ↓g_tf, ↓g_ft, ↓g_tnt, ↓g_tnf, ↓g_fnt, ↓g_fnf, ↓mkT_getD, hpu, hd1, hat, Int.toNat_natCast, hg, hp2, heb, hd2, hd3]
        exact ⟨hair, ⟨hair, hok, by omega, by omega⟩, inK_of (by omega) (by omega), by rw [hE]; exact VEnt.refl _⟩
      · have hd3 : decide (2000 < h - eb) = false := by simpa using he3
        have hE : splE n get h = 0 := by unfold splE; rw [if_neg (by simp [he1]), if_neg (by simp [he2]), hA, if_neg he3]
        have hfr : ∀ (m : Nat) (l : Loc), m < l.1 → ∀ k d : Nat, k ≤ m → (l = (k, d)) = False := fun m l hl k d hk => eq_false fun e => by rw [e] at hl; simp at hl; omega
        by_cases hlast : (i : Int) < (n : Int) - 1
        · have hd4 : decide ((i : Int) < (n : Int) - 1) = true := by simpa using hlast
          have hB : splB n get h = cell get i 0 - (h - eb) := by unfold splB; rw [hsi, hA, if_pos hlast]
          simp only [Proofs.Tryz.f20]
          rw [enter_mkT (Nat.le_of_ble_eq_true rfl)]
          simp (maxSteps := 4000000) only [go_sem, ↓op_move, ↓op_assign, ↓op_pick, ↓op_alloc, ↓op_box, ↓op_build, ↓op_buildSlice, ↓op_load, ↓op_store, ↓op_nilCheck, ↓op_bin, ↓op_un, ↓op_convert, ↓op_makeFunc, ↓op_makeSlice, ↓op_slice, ↓op_fieldAddr, ↓op_field, ↓op_indexAddr, ↓op_index, ↓op_extract, ↓op_lookup, ↓op_mapUpdate, ↓op_makeMap, ↓op_range, ↓op_next, ↓op_call, ↓op_builtin, ↓g_tt, ↓g_ff, ↓g_tf, ↓g_ft, ↓g_tnt, ↓g_tnf, ↓g_fnt, ↓g_fnf, ↓mkT_getD, hpu, hd1, hat, Int.toNat_natCast, hg, hp2, heb, hd2, hd3, hd4]
          refine ⟨hair, ⟨hair, hok, by omega, by omega⟩, inK_of (by omega) (by omega), ⟨hair, by omega, hlay⟩, ⟨by omega, by omega⟩, ⟨hiv, by omega⟩, ⟨by omega, by omega⟩, ⟨hiv, by omega⟩, inK_of (by omega) (by omega), inK_of (by omega) (by omega), inK_of (by omega) (by omega), inK_of (by omega) (by omega), .inl fun hX => ?_⟩
          refine repIn hX hair (gv := _) ?_ (by omega) hi ?_ (by show 10 ≤ 16; omega) (by simp [updH]) (fun l hl => by simp [updH, hfr 16 l hl]) fun g hp' ck' hgj => splEnd hair ?_ hn hi hsi hE ?_ ?_ hgj
          · exact isAir_two hiv hiv
          · simp [updH]
          · exact isAir_two hiv hiv
          · simp only [splV, hsi, hA, hB, if_true]; rfl
          · simp only [splV, hsi, hA, hB, if_neg (show ¬ (1 = 0) by decide)]; rfl
        · have hd4 : decide ((i : Int) < (n : Int) - 1) = false := by simpa using hlast
          have hB : splB n get h = 1 := by unfold splB; rw [hsi, if_neg hlast]
          simp only [Proofs.Tryz.f20]
          rw [enter_mkT (Nat.le_of_ble_eq_true rfl)]
          simp (maxSteps := 4000000) only [go_sem, ↓op_move, ↓op_assign, ↓op_pick, ↓op_alloc, ↓op_box, ↓op_build, ↓op_buildSlice, ↓op_load, ↓op_store, ↓op_nilCheck, ↓op_bin, ↓op_un, ↓op_convert, ↓op_makeFunc, ↓op_makeSlice, ↓op_slice, ↓op_fieldAddr, ↓op_field, ↓op_indexAddr, ↓op_index, ↓op_extract, ↓op_lookup, ↓op_mapUpdate, ↓op_makeMap, ↓op_range, ↓op_next, ↓op_call, ↓op_builtin, ↓g_tt, ↓g_ff, ↓g_tf, ↓g_ft, ↓g_tnt, ↓g_tnf, ↓g_fnt, ↓g_fnf, ↓mkT_getD, hpu, hd1, hat, Int.toNat_natCast, hg, hp2, heb, hd2, hd3, hd4]
          refine ⟨hair, ⟨hair, hok, by omega, by omega⟩, inK_of (by omega) (by omega), ⟨hair, by omega, hlay⟩, ⟨by omega, by omega⟩, ⟨hiv, by omega⟩, ⟨by omega, by omega⟩, ⟨hiv, by omega⟩, inK_of (by omega) (by omega), inK_of (by omega) (by omega), inK_of (by omega) (by omega), .inl fun hX => ?_⟩
          refine repIn hX hair (gv := _) ?_ (by omega) hi ?_ (by show 10 ≤ 15; omega) (by simp [updH]) (fun l hl => by simp [updH, hfr 15 l hl]) fun g hp' ck' hgj => splEnd hair ?_ hn hi hsi hE ?_ ?_ hgj
          · exact isAir_two hiv hiv
          · simp [updH]
          · exact isAir_two hiv hiv
          · simp only [splV, hsi, hA, hB, if_true]; rfl
          · simp only [splV, hsi, hA, hB, if_neg (show ¬ (1 = 0) by decide)]; rfl
    · have hd2 : decide (firstL [err (decide (eb = h)) 9, err (decide ((n : Int) = 8)) 5] = 0) = false := decide_eq_false (h2e ▸ he2)
      have hE : splE n get h = firstL [err (decide (eb = h)) 9, err (decide ((n : Int) = 8)) 5] := by unfold splE; rw [if_neg (by simp [he1]), if_pos he2, h2e]
      simp only [Proofs.Tryz.f20]
      rw [enter_mkT (Nat.le_of_ble_eq_true rfl)]
      simp (maxSteps := 4000000) only [go_sem, ↓op_move, ↓op_assign, ↓op_pick, ↓op_alloc, ↓op_box, ↓op_build, ↓op_buildSlice, ↓op_load, ↓op_store, ↓op_nilCheck, ↓op_bin, ↓op_un, ↓op_convert, ↓op_makeFunc, ↓op_makeSlice, ↓op_slice, ↓op_fieldAddr, ↓op_field, ↓op_indexAddr, ↓op_index, ↓op_extract, ↓op_lookup, ↓op_mapUpdate, ↓op_makeMap, ↓op_range, ↓op_next, ↓op_call, ↓op_builtin, ↓g_tt, ↓g_ff, ↓g_tf, ↓g_ft, ↓g_tnt, ↓g_tnf, ↓g_fnt, ↓g_fnf, ↓mkT_getD, hpu, hd1, hat, Int.toNat_natCast, hg, hp2, heb, hd2]
      exact ⟨hair, ⟨hair, hok, by omega, by omega⟩, by rw [hE, if_pos (h2e ▸ he2)]; exact VEnt.refl _⟩
  · have hd1 : decide (firstL [airE n get, rng h 1 10000] = 0) = false := decide_eq_false he1
    have hE : splE n get h = firstL [airE n get, rng h 1 10000] := by unfold splE; rw [if_pos he1]; rfl
    simp only [Proofs.Tryz.f20]
    rw [enter_mkT (Nat.le_of_ble_eq_true rfl)]
    simp (maxSteps := 4000000) only [go_sem, ↓op_move, ↓op_assign, ↓op_pick, ↓op_alloc, ↓op_box, ↓op_build, ↓op_buildSlice, ↓op_load, ↓op_store, ↓op_nilCheck, ↓op_bin, ↓op_un, ↓op_convert, ↓op_makeFunc, ↓op_makeSlice, ↓op_slice, ↓op_fieldAddr, ↓op_field, ↓op_indexAddr, ↓op_index, ↓op_extract, ↓op_lookup, ↓op_mapUpdate, ↓op_makeMap, ↓op_range, ↓op_next, ↓op_call, ↓op_builtin, ↓g_tt, ↓g_ff, ↓g_tf, ↓g_ft, ↓g_tnt, ↓g_tnf, ↓g_fnt, ↓g_fnf, ↓mkT_getD, hpu, hd1]
    exact ⟨hair, by rw [hE, if_pos (show ¬ firstL [airE n get, rng h 1 10000] = 0 from he1)]; exact VEnt.refl _⟩
end Go.Fly.Tryz
