/- The text of an air. -/
import Derived.Test.YtmlknpghkclffaaGreatDoorSYAEE
import Derived.Test.YtmlknpghkclffaaGreatDoorSYAShelf
import Derived.Test.YtmlknpghkclffaaGreatDoorAS
set_option linter.unusedSimpArgs false
set_option linter.unusedVariables false
set_option maxRecDepth 100000
set_option maxHeartbeats 2000000
namespace Go.Fly.Tryz
open Go Go.RowKit Go.Sort

theorem kItoa_ok : Holds Proofs.Tryz.prog G0 159 itoaC := Holds.of_calls (fun rl args => by unfold itoaC; split <;> rfl) fun rl args w M vs hG hargs hpre => by
  unfold itoaC at hpre ⊢
  split at hpre
  · rename_i n
    obtain ⟨hs, hv⟩ := hargs
    obtain ⟨v0, rfl⟩ : ∃ v0, vs = #[v0] := by
      have : vs.size = 1 := hs
      match vs, this with
      | ⟨[v]⟩, _ => exact ⟨v, rfl⟩
    have h0 : v0 = .int .i64 n := (hv 0 _ rfl).int_inv
    subst h0
    have h3 := hG 3
    rw [G0_3] at h3
    have htab : Lib.TabIs Proofs.Tryz.prog w "internal/strconv.uint64pow10" .u64 Lib.pow10Tab := by
      have hg : Proofs.Tryz.prog.globalNamed "internal/strconv.uint64pow10" = some 3 := by kernel_rfl
      generalize hq : ([Value.int .u64 1, .int .u64 10, .int .u64 100, .int .u64 1000, .int .u64 10000, .int .u64 100000, .int .u64 1000000, .int .u64 10000000, .int .u64 100000000, .int .u64 1000000000, .int .u64 10000000000, .int .u64 100000000000, .int .u64 1000000000000, .int .u64 10000000000000, .int .u64 100000000000000, .int .u64 1000000000000000, .int .u64 10000000000000000, .int .u64 100000000000000000, .int .u64 1000000000000000000, .int .u64 10000000000000000000] : List Value) = q at h3
      cases h3 with
      | tabp _ _ ty fz hM hb hh =>
        have hh' : w.heap[3]? = some (.cells q.toArray ty fz) := hh
        unfold Lib.TabIs World.var?
        rw [hg]
        show (match w.heap[3]? with
          | some (.cells cs _ _) => some cs
          | _ => none) = _
        rw [hh']
        subst hq
        rfl
    refine (Proofs.Tryz.strconv_Itoa n hpre.1 hpre.2 w htab).mono ?_
    rintro e w' ⟨rfl, k, os, rfl⟩
    exact ⟨_, rfl, below_grow .., fun k => .str _⟩
  · exact hpre.elim

theorem kJoin_ok : Holds Proofs.Tryz.prog G0 131 joinC := Holds.of_calls (fun rl args => by unfold joinC; split <;> rfl) fun rl args w M vs hG hargs hpre => by
  unfold joinC at hpre ⊢
  split at hpre
  · rename_i n sz get sep
    obtain ⟨rfl, hst, hn, hlen⟩ := hpre
    obtain ⟨hs, hv⟩ := hargs
    obtain ⟨v0, v1, rfl⟩ : ∃ v0 v1, vs = #[v0, v1] := by
      have : vs.size = 2 := hs
      match vs, this with
      | ⟨[v, u]⟩, _ => exact ⟨v, u, rfl⟩
    have h1 : v1 = .string ⟨sep.toArray⟩ := (hv 1 _ rfl).str_inv
    subst h1
    have h0 : R (bareK w M) (.sl n 1 get) v0 := hv 0 _ rfl
    cases h0 with
    | sl0 _ _ oa cap =>
      refine (Proofs.Tryz.strings_Join_none oa cap ⟨sep.toArray⟩ w).mono ?_
      rintro e w' ⟨rfl, rfl⟩
      exact ⟨_, rfl, Below.refl _ _, fun k => .str []⟩
    | sl _ _ _ b off cap x hM hb hcap hp hl hc hr =>
      have hb' : b < w.heap.size := hb
      have hxs : ∀ (j : Nat) (y : ByteArray), ((List.range n).map fun i => (⟨(strAt get i).toArray⟩ : ByteArray))[j]? = some y → w.cell? ⟨b, off + j, none⟩ = some (.string y) := fun j y hy => by
        rw [List.getElem?_map] at hy
        rcases Nat.lt_or_ge j n with q | q
        · rw [List.getElem?_range q] at hy
          cases hy
          have e1 := hc j 0 q (by decide)
          have e2 := hr j 0 (.str (strAt get j)) q (by rw [hst.2 j q]; rfl)
          rw [e2.str_inv, Nat.mul_one] at e1
          exact e1
        · rw [List.getElem?_eq_none (by rw [List.length_range]; exact q)] at hy
          cases hy
      have hjl : ((List.range n).map fun i => (⟨(strAt get i).toArray⟩ : ByteArray)).map (·.data.toList) = (List.range n).map (strAt get) := by
        rw [List.map_map]; exact List.map_congr_left fun i _ => rfl
      have hl2 : ((List.range n).map fun i => (⟨(strAt get i).toArray⟩ : ByteArray)).length = n := by rw [List.length_map, List.length_range]
      have := Proofs.Tryz.strings_Join b off cap ((List.range n).map fun i => (⟨(strAt get i).toArray⟩ : ByteArray)) ⟨sep.toArray⟩ w hxs hb' (by rw [hl2]; omega) (by rw [hl2]; exact hcap) (by rw [hjl]; exact hlen)
      rw [hl2, hjl] at this
      refine this.mono ?_
      rintro e w' ⟨rfl, hbel⟩
      exact ⟨_, rfl, hbel, fun k => .str _⟩
  · exact hpre.elim

theorem kMapI_ok : Holds Proofs.Tryz.prog G0 158 (mapItoaC 159) := by
  refine Holds.of_exC D158 Proofs.Tryz.func158 rfl foll (by kernel_rfl) (tab [(159, itoaC)]) (tab_ok ⟨kItoa_ok, trivial⟩) G0_ok fun k0 rl args hpu hpre => ?_
  unfold mapItoaC at hpre ⊢
  split at hpre
  rotate_left
  · exact hpre.elim
  rename_i n sz get g
  obtain ⟨rfl, hin, rfl, hn, h64⟩ := hpre
  have hpu := hin.pu
  simp only [Proofs.Tryz.f158]
  rw [enter_mkT (Nat.le_of_ble_eq_true rfl)]
  simp (maxSteps := 4000000) only [go_sem, ↓op_move, ↓op_assign, ↓op_pick, ↓op_alloc, ↓op_box, ↓op_build, ↓op_buildSlice, ↓op_load, ↓op_store, ↓op_nilCheck, ↓op_bin, ↓op_un, ↓op_convert, ↓op_makeFunc, ↓op_makeSlice, ↓op_slice, ↓op_fieldAddr, ↓op_field, ↓op_indexAddr, ↓op_index, ↓op_extract, ↓op_lookup, ↓op_mapUpdate, ↓op_makeMap, ↓op_range, ↓op_next, ↓op_call, ↓op_builtin, ↓g_tt, ↓g_ff, ↓g_tf, ↓g_ft, ↓g_tnt, ↓g_tnf, ↓g_fnt, ↓g_fnf, ↓mkT_getD, hpu]
  refine RestT.ents (Ents.nilArr (d := 5) (l := (4, 1000)) 1 (fun _ => []) rfl rfl rfl) ?_
  simp (maxSteps := 4000000) only [go_sem, ↓op_move, ↓op_assign, ↓op_pick, ↓op_alloc, ↓op_box, ↓op_build, ↓op_buildSlice, ↓op_load, ↓op_store, ↓op_nilCheck, ↓op_bin, ↓op_un, ↓op_convert, ↓op_makeFunc, ↓op_makeSlice, ↓op_slice, ↓op_fieldAddr, ↓op_field, ↓op_indexAddr, ↓op_index, ↓op_extract, ↓op_lookup, ↓op_mapUpdate, ↓op_makeMap, ↓op_range, ↓op_next, ↓op_call, ↓op_builtin, ↓g_tt, ↓g_ff, ↓g_tf, ↓g_ft, ↓g_tnt, ↓g_tnf, ↓g_fnt, ↓g_fnf, ↓mkT_getD]
  refine RestT.loopF (β := Nat) [(5, 5), (7, 7), (10, 20)] (fun i => [(5, .msl (4, 1000) 0 i), (10, .int .i64 i)]) (fun i => updH (fun _ => none) (4, 1000) (.arr i 1 (strsG fun i => Lib.itoa (intAt get i)))) (fun i => i ≤ n) (fun i => n - i) 0 (Nat.zero_le _) ?_
    (HpLe.arr1 (updH_same _ _ _) rfl rfl fun i hi => by omega) ?_
  · simp (maxSteps := 4000000) only [go_sem, ↓op_move, ↓op_assign, ↓op_pick, ↓op_alloc, ↓op_box, ↓op_build, ↓op_buildSlice, ↓op_load, ↓op_store, ↓op_nilCheck, ↓op_bin, ↓op_un, ↓op_convert, ↓op_makeFunc, ↓op_makeSlice, ↓op_slice, ↓op_fieldAddr, ↓op_field, ↓op_indexAddr, ↓op_index, ↓op_extract, ↓op_lookup, ↓op_mapUpdate, ↓op_makeMap, ↓op_range, ↓op_next, ↓op_call, ↓op_builtin, ↓g_tt, ↓g_ff, ↓g_tf, ↓g_ft, ↓g_tnt, ↓g_tnf, ↓g_fnt, ↓g_fnf, ↓mkT_getD]
    try simp
  · intro ck i hck hi
    generalize hq0 : exC _ _ _ _ _ = gg
    by_cases hlt : i < n
    · have hd : decide ((i : Int) < (n : Int)) = true := by simp; omega
      have hg := hin.2 i hlt
      rw [← hq0]
      clear hq0
      simp (maxSteps := 4000000) only [go_sem, ↓op_move, ↓op_assign, ↓op_pick, ↓op_alloc, ↓op_box, ↓op_build, ↓op_buildSlice, ↓op_load, ↓op_store, ↓op_nilCheck, ↓op_bin, ↓op_un, ↓op_convert, ↓op_makeFunc, ↓op_makeSlice, ↓op_slice, ↓op_fieldAddr, ↓op_field, ↓op_indexAddr, ↓op_index, ↓op_extract, ↓op_lookup, ↓op_mapUpdate, ↓op_makeMap, ↓op_range, ↓op_next, ↓op_call, ↓op_builtin, ↓g_tt, ↓g_ff, ↓g_tf, ↓g_ft, ↓g_tnt, ↓g_tnf, ↓g_fnt, ↓g_fnf, ↓mkT_getD, hg, hd, hpu]
      exact ⟨⟨by omega, by omega⟩, h64 i hlt, ⟨by omega, by omega, row_ok rfl fun v hv => by rw [List.mem_singleton.1 hv]; exact ⟨.str _, rfl⟩⟩, inK_of (by omega) (by omega), i + 1, hlt, by omega, ⟨rfl, rfl⟩, HpLe.arr1 (updH_same _ _ _) rfl rfl fun j hj => snoc (f := strsG fun i => Lib.itoa (intAt get i)) rfl rfl hj⟩
    · have hd : decide ((i : Int) < (n : Int)) = false := by simp; omega
      obtain rfl : i = n := by omega
      rw [← hq0]
      clear hq0
      simp (maxSteps := 4000000) only [go_sem, ↓op_move, ↓op_assign, ↓op_pick, ↓op_alloc, ↓op_box, ↓op_build, ↓op_buildSlice, ↓op_load, ↓op_store, ↓op_nilCheck, ↓op_bin, ↓op_un, ↓op_convert, ↓op_makeFunc, ↓op_makeSlice, ↓op_slice, ↓op_fieldAddr, ↓op_field, ↓op_indexAddr, ↓op_index, ↓op_extract, ↓op_lookup, ↓op_mapUpdate, ↓op_makeMap, ↓op_range, ↓op_next, ↓op_call, ↓op_builtin, ↓g_tt, ↓g_ff, ↓g_tf, ↓g_ft, ↓g_tnt, ↓g_tnf, ↓g_fnt, ↓g_fnf, ↓mkT_getD, hd, hpu, Nat.zero_add]
      exact VEnt.sl fun k hk => frzRow_pu fun v hv => by rw [show strsG (fun i => Lib.itoa (intAt get i)) k = [V.str (Lib.itoa (intAt get k))] from rfl, List.mem_singleton] at hv; rw [hv]; exact .str _

theorem kLine_ok : Holds Proofs.Tryz.prog G0 133 lineC := by
  refine Holds.of_exC D133 Proofs.Tryz.func133 rfl foll (by kernel_rfl) (tab [(131, joinC), (158, mapItoaC 159), (159, itoaC), (iceKey 1, iceC)]) (tab_ok ⟨kJoin_ok, kMapI_ok, kItoa_ok, ice_holds, trivial⟩) G0_ok fun k0 rl args hpu hpre => ?_
  unfold lineC at hpre ⊢
  split at hpre
  rotate_left
  · exact hpre.elim
  rename_i th sp wx wy m sz g
  obtain ⟨rfl, hiv, hm, h64⟩ := hpre
  have hpu := hiv.pu
  simp only [Proofs.Tryz.f133]
  rw [enter_mkT (Nat.le_of_ble_eq_true rfl)]
  simp (maxSteps := 4000000) only [go_sem, ↓op_move, ↓op_assign, ↓op_pick, ↓op_alloc, ↓op_box, ↓op_build, ↓op_buildSlice, ↓op_load, ↓op_store, ↓op_nilCheck, ↓op_bin, ↓op_un, ↓op_convert, ↓op_makeFunc, ↓op_makeSlice, ↓op_slice, ↓op_fieldAddr, ↓op_field, ↓op_indexAddr, ↓op_index, ↓op_extract, ↓op_lookup, ↓op_mapUpdate, ↓op_makeMap, ↓op_range, ↓op_next, ↓op_call, ↓op_builtin, ↓g_tt, ↓g_ff, ↓g_tf, ↓g_ft, ↓g_tnt, ↓g_tnf, ↓g_fnt, ↓g_fnf, ↓mkT_getD, hpu]
  refine RestT.loopG (β := Nat) [(3, 3), (5, 5), (20, 31)] (fun i => [(3, .msl (3, 16) 0 (4 + 2 * i)), (20, .int .i64 i)]) (fun i => updH (fun _ => none) (3, 16) (.arr (4 + 2 * i) 1 (fun j => [.int .i64 (lineI th sp wx wy g j)]))) (fun _ i => i ≤ m) (fun i => m - i) 0 (Nat.zero_le _) ?_
    (HpLe.arr1 (updH_same _ _ _) rfl rfl fun j hj => ?_) ?_
  · simp (maxSteps := 4000000) only [go_sem, ↓op_move, ↓op_assign, ↓op_pick, ↓op_alloc, ↓op_box, ↓op_build, ↓op_buildSlice, ↓op_load, ↓op_store, ↓op_nilCheck, ↓op_bin, ↓op_un, ↓op_convert, ↓op_makeFunc, ↓op_makeSlice, ↓op_slice, ↓op_fieldAddr, ↓op_field, ↓op_indexAddr, ↓op_index, ↓op_extract, ↓op_lookup, ↓op_mapUpdate, ↓op_makeMap, ↓op_range, ↓op_next, ↓op_call, ↓op_builtin, ↓g_tt, ↓g_ff, ↓g_tf, ↓g_ft, ↓g_tnt, ↓g_tnf, ↓g_fnt, ↓g_fnf, ↓mkT_getD]
    try simp
  · rcases j with _ | _ | _ | _ | j
    · rfl
    · rfl
    · rfl
    · rfl
    · omega
  · intro ck i hck hi
    generalize hq0 : exC _ _ _ _ _ = gg
    by_cases hlt : i < m
    · have hd : decide ((i : Int) < (m : Int)) = true := by simp; omega
      have hg := hiv.2 i hlt
      rw [← hq0]
      clear hq0
      simp (maxSteps := 4000000) only [go_sem, ↓op_move, ↓op_assign, ↓op_pick, ↓op_alloc, ↓op_box, ↓op_build, ↓op_buildSlice, ↓op_load, ↓op_store, ↓op_nilCheck, ↓op_bin, ↓op_un, ↓op_convert, ↓op_makeFunc, ↓op_makeSlice, ↓op_slice, ↓op_fieldAddr, ↓op_field, ↓op_indexAddr, ↓op_index, ↓op_extract, ↓op_lookup, ↓op_mapUpdate, ↓op_makeMap, ↓op_range, ↓op_next, ↓op_call, ↓op_builtin, ↓g_tt, ↓g_ff, ↓g_tf, ↓g_ft, ↓g_tnt, ↓g_tnf, ↓g_fnt, ↓g_fnf, ↓mkT_getD, hg, hd, hpu]
      refine ⟨⟨by omega, by omega⟩, ⟨by omega, by omega, fun k hk v hv => ?_⟩, inK_of (by omega) (by omega), i + 1, by omega, by omega, ⟨rfl, by rw [Int.natCast_add]; rfl⟩, HpLe.arr1 (updH_same _ _ _) rfl rfl fun j hj => ?_⟩
      · have hv := ones2 v (by rcases k with _ | _ | k
                               · simpa [rowAt] using Or.inl hv
                               · simpa [rowAt] using Or.inr hv
                               · omega)
        exact ⟨.inl hv.1, hv.2⟩
      · by_cases h1 : j < 4 + 2 * i
        · rw [if_pos h1]
        · rw [if_neg h1]
          have h2 : j = 4 + 2 * i ∨ j = 4 + 2 * i + 1 := by omega
          rcases h2 with rfl | rfl
          · have e1 : lineI th sp wx wy g (4 + 2 * i) = cell g i 0 := by
              unfold lineI
              rw [if_neg (by omega), show 4 + 2 * i - 4 = 2 * i by omega, Nat.mul_div_cancel_left _ (by decide), Nat.mul_mod_right]
            rw [e1, Nat.sub_self]; rfl
          · have e1 : lineI th sp wx wy g (4 + 2 * i + 1) = cell g i 1 := by
              unfold lineI
              rw [if_neg (by omega), show 4 + 2 * i + 1 - 4 = 2 * i + 1 by omega, show (2 * i + 1) / 2 = i by omega, show (2 * i + 1) % 2 = 1 by omega]
            rw [e1, show 4 + 2 * i + 1 - (4 + 2 * i) = 1 by omega]; rfl
    · have hd : decide ((i : Int) < (m : Int)) = false := by simp; omega
      obtain rfl : i = m := by omega
      rw [← hq0]
      clear hq0
      have hpn : Pu (.sl (4 + 2 * i) 1 fun j => [V.int .i64 (lineI th sp wx wy g j)]) := pu_sl.2 fun j _ v hv => by rw [List.mem_singleton.1 hv]; exact .int _ _
      simp (maxSteps := 4000000) only [go_sem, ↓op_move, ↓op_assign, ↓op_pick, ↓op_alloc, ↓op_box, ↓op_build, ↓op_buildSlice, ↓op_load, ↓op_store, ↓op_nilCheck, ↓op_bin, ↓op_un, ↓op_convert, ↓op_makeFunc, ↓op_makeSlice, ↓op_slice, ↓op_fieldAddr, ↓op_field, ↓op_indexAddr, ↓op_index, ↓op_extract, ↓op_lookup, ↓op_mapUpdate, ↓op_makeMap, ↓op_range, ↓op_next, ↓op_call, ↓op_builtin, ↓g_tt, ↓g_ff, ↓g_tf, ↓g_ft, ↓g_tnt, ↓g_tnf, ↓g_fnt, ↓g_fnf, ↓mkT_getD, hd, hpu, hpn, Nat.zero_add]
      refine ⟨_, Ents.kill (d := 3) (l := (3, 16)) (n := 4 + 2 * i) rfl rfl fun a b v _ hv => (ones1 v (List.mem_of_getElem? hv)).1, ?_⟩
      have hrow : ∀ (hp : Heap) (k : Nat), frzRow (frz 4 hp) (if k < 1 then rowAt [V.str [108, 97, 121, 101, 114]] 1 k else strsG (fun i => Lib.itoa (lineI th sp wx wy g i)) (k - 1)) = [V.str (lineS th sp wx wy g k)] := fun hp k => by
        have e : (if k < 1 then rowAt [V.str [108, 97, 121, 101, 114]] 1 k else strsG (fun i => Lib.itoa (lineI th sp wx wy g i)) (k - 1)) = [V.str (lineS th sp wx wy g k)] := by
          unfold lineS
          by_cases h : k = 0
          · subst h; rfl
          · rw [if_neg (by omega), if_neg h]; rfl
        rw [e]
        exact frzRow_pu fun v hv => by rw [List.mem_singleton.1 hv]; exact .str _
      have hjb : joinB (1 + (4 + 2 * i)) (fun k => [V.str (lineS th sp wx wy g k)]) [32] = Lib.join ((List.range (1 + (4 + 2 * i))).map (lineS th sp wx wy g)) [32] := rfl
      have hjl := lineB_len (m := i) (g := g) h64 hm
      simp (maxSteps := 4000000) only [go_sem, ↓op_move, ↓op_assign, ↓op_pick, ↓op_alloc, ↓op_box, ↓op_build, ↓op_buildSlice, ↓op_load, ↓op_store, ↓op_nilCheck, ↓op_bin, ↓op_un, ↓op_convert, ↓op_makeFunc, ↓op_makeSlice, ↓op_slice, ↓op_fieldAddr, ↓op_field, ↓op_indexAddr, ↓op_index, ↓op_extract, ↓op_lookup, ↓op_mapUpdate, ↓op_makeMap, ↓op_range, ↓op_next, ↓op_call, ↓op_builtin, ↓g_tt, ↓g_ff, ↓g_tf, ↓g_ft, ↓g_tnt, ↓g_tnf, ↓g_fnt, ↓g_fnf, ↓mkT_getD, hd, hpu, hpn, Nat.zero_add, hrow, hjb]
      refine ⟨⟨⟨isInts_fn (lineI th sp wx wy g) (by omega), by omega, fun k hk => lineI_64 h64 hk⟩, (isStrs_fn (by omega)).pu⟩, ⟨by omega, by omega, fun k hk v hv => ?_⟩, ⟨⟨isStrs_fn (f := lineS th sp wx wy g) (by omega), by omega, by omega⟩, .str _⟩, by omega, VEnt.of_eq rfl⟩
      rw [show strsG (fun i => Lib.itoa (lineI th sp wx wy g i)) k = [V.str (Lib.itoa (lineI th sp wx wy g k))] from rfl, List.mem_singleton] at hv
      rw [hv]
      exact ⟨.inl (.str _), rfl⟩

theorem kMapL_ok : Holds Proofs.Tryz.prog G0 132 (mapLineC 133) := by
  refine Holds.of_exC D132 Proofs.Tryz.func132 rfl foll (by kernel_rfl) (tab [(133, lineC)]) (tab_ok ⟨kLine_ok, trivial⟩) G0_ok fun k0 rl args hpu hpre => ?_
  unfold mapLineC at hpre ⊢
  split at hpre
  rotate_left
  · exact hpre.elim
  rename_i n sz get g
  obtain ⟨rfl, hair, rfl, hn, hb⟩ := hpre
  have hpu := hair.pu
  simp only [Proofs.Tryz.f132]
  rw [enter_mkT (Nat.le_of_ble_eq_true rfl)]
  simp (maxSteps := 4000000) only [go_sem, ↓op_move, ↓op_assign, ↓op_pick, ↓op_alloc, ↓op_box, ↓op_build, ↓op_buildSlice, ↓op_load, ↓op_store, ↓op_nilCheck, ↓op_bin, ↓op_un, ↓op_convert, ↓op_makeFunc, ↓op_makeSlice, ↓op_slice, ↓op_fieldAddr, ↓op_field, ↓op_indexAddr, ↓op_index, ↓op_extract, ↓op_lookup, ↓op_mapUpdate, ↓op_makeMap, ↓op_range, ↓op_next, ↓op_call, ↓op_builtin, ↓g_tt, ↓g_ff, ↓g_tf, ↓g_ft, ↓g_tnt, ↓g_tnf, ↓g_fnt, ↓g_fnf, ↓mkT_getD, hpu]
  refine RestT.ents (Ents.nilArr (d := 5) (l := (4, 1000)) 1 (fun _ => []) rfl rfl rfl) ?_
  simp (maxSteps := 4000000) only [go_sem, ↓op_move, ↓op_assign, ↓op_pick, ↓op_alloc, ↓op_box, ↓op_build, ↓op_buildSlice, ↓op_load, ↓op_store, ↓op_nilCheck, ↓op_bin, ↓op_un, ↓op_convert, ↓op_makeFunc, ↓op_makeSlice, ↓op_slice, ↓op_fieldAddr, ↓op_field, ↓op_indexAddr, ↓op_index, ↓op_extract, ↓op_lookup, ↓op_mapUpdate, ↓op_makeMap, ↓op_range, ↓op_next, ↓op_call, ↓op_builtin, ↓g_tt, ↓g_ff, ↓g_tf, ↓g_ft, ↓g_tnt, ↓g_tnf, ↓g_fnt, ↓g_fnf, ↓mkT_getD]
  refine RestT.loopF (β := Nat) [(5, 5), (7, 7), (10, 20)] (fun i => [(5, .msl (4, 1000) 0 i), (10, .int .i64 i)]) (fun i => updH (fun _ => none) (4, 1000) (.arr i 1 (strsG (lineG get)))) (fun i => i ≤ n) (fun i => n - i) 0 (Nat.zero_le _) ?_
    (HpLe.arr1 (updH_same _ _ _) rfl rfl fun i hi => by omega) ?_
  · simp (maxSteps := 4000000) only [go_sem, ↓op_move, ↓op_assign, ↓op_pick, ↓op_alloc, ↓op_box, ↓op_build, ↓op_buildSlice, ↓op_load, ↓op_store, ↓op_nilCheck, ↓op_bin, ↓op_un, ↓op_convert, ↓op_makeFunc, ↓op_makeSlice, ↓op_slice, ↓op_fieldAddr, ↓op_field, ↓op_indexAddr, ↓op_index, ↓op_extract, ↓op_lookup, ↓op_mapUpdate, ↓op_makeMap, ↓op_range, ↓op_next, ↓op_call, ↓op_builtin, ↓g_tt, ↓g_ff, ↓g_tf, ↓g_ft, ↓g_tnt, ↓g_tnf, ↓g_fnt, ↓g_fnf, ↓mkT_getD]
    try simp
  · intro ck i hck hi
    generalize hq0 : exC _ _ _ _ _ = gg
    by_cases hlt : i < n
    · have hd : decide ((i : Int) < (n : Int)) = true := by simp; omega
      obtain ⟨hg, hiv⟩ := hair.2 i hlt
      have hp2 := hiv.pu
      obtain ⟨b1, b2, b3⟩ := hb i hlt
      rw [← hq0]
      clear hq0
      simp (maxSteps := 4000000) only [go_sem, ↓op_move, ↓op_assign, ↓op_pick, ↓op_alloc, ↓op_box, ↓op_build, ↓op_buildSlice, ↓op_load, ↓op_store, ↓op_nilCheck, ↓op_bin, ↓op_un, ↓op_convert, ↓op_makeFunc, ↓op_makeSlice, ↓op_slice, ↓op_fieldAddr, ↓op_field, ↓op_indexAddr, ↓op_index, ↓op_extract, ↓op_lookup, ↓op_mapUpdate, ↓op_makeMap, ↓op_range, ↓op_next, ↓op_call, ↓op_builtin, ↓g_tt, ↓g_ff, ↓g_tf, ↓g_ft, ↓g_tnt, ↓g_tnf, ↓g_fnt, ↓g_fnf, ↓mkT_getD, hg, hd, hpu, hp2]
      refine ⟨⟨by omega, by omega⟩, ⟨hiv, b1, b2, b3⟩, ⟨by omega, by omega, row_ok rfl fun v hv => by rw [List.mem_singleton.1 hv]; exact ⟨.str _, rfl⟩⟩, inK_of (by omega) (by omega), i + 1, hlt, by omega, ⟨rfl, rfl⟩, HpLe.arr1 (updH_same _ _ _) rfl rfl fun j hj => snoc (f := strsG (lineG get)) rfl rfl hj⟩
    · have hd : decide ((i : Int) < (n : Int)) = false := by simp; omega
      obtain rfl : i = n := by omega
      rw [← hq0]
      clear hq0
      simp (maxSteps := 4000000) only [go_sem, ↓op_move, ↓op_assign, ↓op_pick, ↓op_alloc, ↓op_box, ↓op_build, ↓op_buildSlice, ↓op_load, ↓op_store, ↓op_nilCheck, ↓op_bin, ↓op_un, ↓op_convert, ↓op_makeFunc, ↓op_makeSlice, ↓op_slice, ↓op_fieldAddr, ↓op_field, ↓op_indexAddr, ↓op_index, ↓op_extract, ↓op_lookup, ↓op_mapUpdate, ↓op_makeMap, ↓op_range, ↓op_next, ↓op_call, ↓op_builtin, ↓g_tt, ↓g_ff, ↓g_tf, ↓g_ft, ↓g_tnt, ↓g_tnf, ↓g_fnt, ↓g_fnf, ↓mkT_getD, hd, hpu, Nat.zero_add]
      exact VEnt.sl fun k hk => frzRow_pu fun v hv => by rw [show strsG (lineG get) k = [V.str (lineG get k)] from rfl, List.mem_singleton] at hv; rw [hv]; exact .str _

theorem kPrint_ok : Holds Proofs.Tryz.prog G0 71 print3C := by
  refine Holds.of_exC D71 Proofs.Tryz.func71 rfl foll (by kernel_rfl) (tab [(27, airC), (131, joinC), (132, mapLineC 133), (133, lineC)]) (tab_ok ⟨aAir_ok, kJoin_ok, kMapL_ok, kLine_ok, trivial⟩) G0_ok fun k0 rl args hpu hpre => ?_
  unfold print3C at hpre ⊢
  split at hpre
  rotate_left
  · exact hpre.elim
  rename_i n sz get
  obtain ⟨rfl, hair⟩ := hpre
  have hpu := hair.pu
  by_cases hae : airE n get = 0
  · have hok := airE_ok hae
    have hd : decide (airE n get = 0) = true := decide_eq_true hae
    simp only [Proofs.Tryz.f71]
    rw [enter_mkT (Nat.le_of_ble_eq_true rfl)]
    simp (maxSteps := 4000000) only [go_sem, ↓op_move, ↓op_assign, ↓op_pick, ↓op_alloc, ↓op_box, ↓op_build, ↓op_buildSlice, ↓op_load, ↓op_store, ↓op_nilCheck, ↓op_bin, ↓op_un, ↓op_convert, ↓op_makeFunc, ↓op_makeSlice, ↓op_slice, ↓op_fieldAddr, ↓op_field, ↓op_indexAddr, ↓op_index, ↓op_extract, ↓op_lookup, ↓op_mapUpdate, ↓op_makeMap, ↓op_range, ↓op_next, ↓op_call, ↓op_builtin, ↓g_tt, ↓g_ff, ↓g_tf, ↓g_ft, ↓g_tnt, ↓g_tnf, ↓g_fnt, ↓g_fnf, ↓mkT_getD, hpu, hd]
    rw [orE_no hae]
    have hcn := hok.cnt
    have hbn := hok.bands
    have h64 : ∀ i, i < n → inN get i 4 ≤ 1000 ∧ (In64 (cell get i 0) ∧ In64 (cell get i 1) ∧ In64 (cell get i 2) ∧ In64 (cell get i 3)) ∧ ∀ k, k < inN get i 4 → In64 (cell (inG get i 4) k 0) ∧ In64 (cell (inG get i 4) k 1) := fun i hi => by
      have h1 := hok.th i hi
      have h2 := hok.same i hi
      have h3 := airE_wind hae hi
      refine ⟨by omega, ⟨⟨by omega, by omega⟩, ⟨by omega, by omega⟩, ⟨by omega, by omega⟩, ⟨by omega, by omega⟩⟩, fun k hk => ?_⟩
      have h4 := hok.pass i hi k (by omega)
      exact ⟨⟨by omega, by omega⟩, ⟨by omega, by omega⟩⟩
    have hjl : (joinB n (strsG (lineG get)) []).length ≤ 140737488355328 := by
      have h1 := join_le (l := (List.range n).map (lineG get)) (sep := []) (m := 100001) fun x hx => by
        obtain ⟨j, hj, rfl⟩ := List.mem_map.1 hx
        have hj := List.mem_range.1 hj
        have := h64 j hj
        have := lineB_len this.2 this.1
        unfold lineG lineB
        rw [List.length_append]
        simp only [List.length_cons, List.length_nil]
        omega
      rw [List.length_map, List.length_range] at h1
      simp only [List.length_nil] at h1
      show (Lib.join ((List.range n).map (lineG get)) []).length ≤ _
      omega
    exact ⟨hair, ⟨⟨hair, by omega, h64⟩, (isStrs_fn (by omega)).pu⟩, ⟨⟨isStrs_fn (by omega), by omega, hjl⟩, .inl (isStrs_fn (by omega)).pu⟩, VEnt.of_eq rfl⟩
  · have hd : decide (airE n get = 0) = false := decide_eq_false hae
    simp only [Proofs.Tryz.f71]
    rw [enter_mkT (Nat.le_of_ble_eq_true rfl)]
    simp (maxSteps := 4000000) only [go_sem, ↓op_move, ↓op_assign, ↓op_pick, ↓op_alloc, ↓op_box, ↓op_build, ↓op_buildSlice, ↓op_load, ↓op_store, ↓op_nilCheck, ↓op_bin, ↓op_un, ↓op_convert, ↓op_makeFunc, ↓op_makeSlice, ↓op_slice, ↓op_fieldAddr, ↓op_field, ↓op_indexAddr, ↓op_index, ↓op_extract, ↓op_lookup, ↓op_mapUpdate, ↓op_makeMap, ↓op_range, ↓op_next, ↓op_call, ↓op_builtin, ↓g_tt, ↓g_ff, ↓g_tf, ↓g_ft, ↓g_tnt, ↓g_tnf, ↓g_fnt, ↓g_fnf, ↓mkT_getD, hpu, hd]
    rw [orE_err hae]
    exact ⟨hair, VEnt.refl _⟩
end Go.Fly.Tryz
