/- Part of a proof: an evaluator of the model's code by abstract values, and plain laws for it. No conditions. -/
import Derived.Shelf.Strings.OnBuilder
import Derived.Shelf.Small.Wraps
import Derived.Shelf.LaysM
import Derived.Shelf.Strconv.Itoa3
import Derived.Test.YtmlknpghkclffaaGreatDoorProg
import Derived.Test.YtmlknpghkclffaaGreatDoorSYAEE
import Derived.Test.YtmlknpghkclffaaGreatDoorAS
set_option linter.unusedSimpArgs false
set_option linter.unusedVariables false
section
/-
  DERIVED: THE SHELF's CONTRACTS AT THIS DUMP, IN PLAIN WORDS (tools/lay-plain.mjs out of 'TryzShelf.lean', which tools/lay-shelf.mjs wrote): THE SAME DECLARATIONS UNDER THE SAME NAMES: 'import', 'namespace', 'open', 'def', 'theorem' AND NOTHING ELSE: no command of the shelf's: FOR A HAND-IN. Each laying: the table of numbers ('.._ren') and one theorem, a field a fact of the dump's own or the kernel's comparison; each contract: ONE APPLICATION.
-/
namespace Go.Proofs
open Go.Shelf
def Tryz.lays156_ren : Go.Shelf.Ren := ⟨fun | 156 => 131 | 165 => 155 | 166 => 156 | 169 => 157 | 240 => 177 | 241 => 178 | 276 => 192 | 277 => 193 | n => n, fun | 31 => 137 | 9 => 9 | 3 => 3 | 4 => 4 | 0 => 0 | 20 => 20 | 72 => 232 | 76 => 236 | 70 => 229 | 37 => 230 | 75 => 235 | 127 => 249 | 164 => 255 | 5 => 5 | 80 => 197 | n => n, fun | n => n⟩
theorem Tryz.lays156 : Go.Proofs.Lays.n156 Tryz.prog Tryz.lays156_ren := {
  mixed := by kernel_rfl
  f156 := Tryz.func131.trans (congrArg some (by kernel_rfl))
  f165 := Tryz.func155.trans (congrArg some (by kernel_rfl))
  f166 := Tryz.func156.trans (congrArg some (by kernel_rfl))
  f169 := Tryz.func157.trans (congrArg some (by kernel_rfl))
  f240 := Tryz.func177.trans (congrArg some (by kernel_rfl))
  f241 := Tryz.func178.trans (congrArg some (by kernel_rfl))
  f276 := Tryz.func192.trans (congrArg some (by kernel_rfl))
  f277 := Tryz.func193.trans (congrArg some (by kernel_rfl))
  t0 := Tryz.underlying0
  a0 := Tryz.isAgg0
  z0 := Tryz.sizeOf0
  v0 := Tryz.zeroValue0
  t3 := Tryz.underlying3
  a3 := Tryz.isAgg3
  z3 := Tryz.sizeOf3
  v3 := Tryz.zeroValue3
  t4 := Tryz.underlying4
  a4 := Tryz.isAgg4
  z4 := Tryz.sizeOf4
  v4 := Tryz.zeroValue4
  t9 := Tryz.underlying9
  a9 := Tryz.isAgg9
  z9 := Tryz.sizeOf9
  v9 := Tryz.zeroValue9
  t20 := Tryz.underlying20
  a20 := Tryz.isAgg20
  z20 := Tryz.sizeOf20
  v20 := Tryz.zeroValue20
  t31 := Tryz.underlying137
  a31 := Tryz.isAgg137
  z31 := Tryz.sizeOf137
  v31 := Tryz.zeroValue137
  t37 := Tryz.underlying230
  a37 := Tryz.isAgg230
  z37 := Tryz.sizeOf230
  v37 := Tryz.zeroValue230
  t70 := Tryz.underlying229
  a70 := Tryz.isAgg229
  z70 := Tryz.sizeOf229
  v70 := Tryz.zeroValue229
  t72 := Tryz.underlying232
  a72 := Tryz.isAgg232
  z72 := Tryz.sizeOf232
  v72 := Tryz.zeroValue232
  t75 := Tryz.underlying235
  a75 := Tryz.isAgg235
  z75 := Tryz.sizeOf235
  v75 := Tryz.zeroValue235
  t76 := Tryz.underlying236
  a76 := Tryz.isAgg236
  z76 := Tryz.sizeOf236
  v76 := Tryz.zeroValue236
  t127 := Tryz.underlying249
  a127 := Tryz.isAgg249
  z127 := Tryz.sizeOf249
  v127 := Tryz.zeroValue249
  t164 := Tryz.underlying255
  a164 := Tryz.isAgg255
  z164 := Tryz.sizeOf255
  v164 := Tryz.zeroValue255 }
theorem Tryz.Builder_Extra_156 : Builder.Extra Tryz.prog Tryz.lays156_ren := {
  sizeBuilder := by kernel_rfl
  liesBuilder := by kernel_rfl
  t5 := Tryz.underlying5
  a5 := Tryz.isAgg5
  z5 := Tryz.sizeOf5
  v5 := Tryz.zeroValue5
  infoByte := by kernel_rfl
  cellsByte := by kernel_rfl
  sizeByte := by kernel_rfl
  neB5 := by decide }
open Go.RowKit in
/-- No element: the empty string; the world is as it was. (Whatever the slice's address and capacity: a nil slice too.) (LAID: no walk: one application.) -/
theorem Tryz.strings_Join_none (a : Option Addr) (c : Nat) (sep : ByteArray) (w : World) :
    Calls Tryz.prog 131 #[.slice a 0 c, .string sep] w fun e w' => e = .returned (.string ⟨#[]⟩) ∧ w' = w := Any.strings_Join_none Tryz.lays156 Tryz.Builder_Extra_156 a c sep w
open Go.RowKit in
/-- strings.Join: "Join concatenates the elements of its first argument to create a single string. The separator string sep is placed between elements in the resulting string.": HOWEVER MANY ELEMENTS. Below the heap's end the world is as it was. (LAID: no walk: one application.) -/
theorem Tryz.strings_Join (bk o c : Nat) (xs : List ByteArray) (sep : ByteArray) (w : World) (hcells : ∀ (j : Nat) x, xs[j]? = some x → w.cell? ⟨bk, o + j, none⟩ = some (.string x)) (hbk : bk < w.heap.size) (hN : xs.length ≤ 140737488355328) (hcap : xs.length ≤ c) (hlen : (Lib.join (xs.map (·.data.toList)) sep.data.toList).length ≤ 140737488355328) :
    Calls Tryz.prog 131 #[.slice (some ⟨bk, o, none⟩) xs.length c, .string sep] w fun e w' => e = .returned (.string ⟨(Lib.join (xs.map (·.data.toList)) sep.data.toList).toArray⟩) ∧ Below w.heap.size w w' := Any.strings_Join Tryz.lays156 Tryz.Builder_Extra_156 bk o c xs sep w hcells hbk hN hcap hlen
def Tryz.laysM171_ren : Go.Shelf.Ren := ⟨fun | 171 => 159 | 243 => 179 | 246 => 194 | 283 => 205 | 284 => 206 | 285 => 207 | 286 => 208 | 129 => 215 | 317 => 214 | 318 => 216 | 319 => 217 | 320 => 218 | 337 => 220 | 338 => 221 | n => n, fun | 3 => 3 | 9 => 9 | 2 => 2 | 4 => 4 | 171 => 266 | 0 => 0 | 53 => 263 | 37 => 230 | 5 => 5 | 173 => 269 | 212 => 272 | 51 => 111 | 20 => 20 | 213 => 273 | 46 => 254 | 232 => 282 | 233 => 283 | n => n, fun | 17 => 3 | 18 => 6 | 19 => 7 | n => n⟩
theorem Tryz.laysM171 : Go.Proofs.LaysM.n171 Tryz.prog Tryz.laysM171_ren := {
  mixed := by kernel_rfl
  f129 := Tryz.func215.trans (congrArg some (by kernel_rfl))
  f171 := Tryz.func159.trans (congrArg some (by kernel_rfl))
  f243 := Tryz.func179.trans (congrArg some (by kernel_rfl))
  f246 := Tryz.func194.trans (congrArg some (by kernel_rfl))
  f283 := Tryz.func205.trans (congrArg some (by kernel_rfl))
  f284 := Tryz.func206.trans (congrArg some (by kernel_rfl))
  f285 := Tryz.func207.trans (congrArg some (by kernel_rfl))
  f286 := Tryz.func208.trans (congrArg some (by kernel_rfl))
  f317 := Tryz.func214.trans (congrArg some (by kernel_rfl))
  f318 := Tryz.func216.trans (congrArg some (by kernel_rfl))
  f319 := Tryz.func217.trans (congrArg some (by kernel_rfl))
  f320 := Tryz.func218.trans (congrArg some (by kernel_rfl))
  f337 := Tryz.func220.trans (congrArg some (by kernel_rfl))
  f338 := Tryz.func221.trans (congrArg some (by kernel_rfl))
  t0 := Tryz.underlying0
  a0 := Tryz.isAgg0
  z0 := Tryz.sizeOf0
  v0 := Tryz.zeroValue0
  t2 := Tryz.underlying2
  a2 := Tryz.isAgg2
  z2 := Tryz.sizeOf2
  v2 := Tryz.zeroValue2
  t3 := Tryz.underlying3
  a3 := Tryz.isAgg3
  z3 := Tryz.sizeOf3
  v3 := Tryz.zeroValue3
  t4 := Tryz.underlying4
  a4 := Tryz.isAgg4
  z4 := Tryz.sizeOf4
  v4 := Tryz.zeroValue4
  t5 := Tryz.underlying5
  a5 := Tryz.isAgg5
  z5 := Tryz.sizeOf5
  v5 := Tryz.zeroValue5
  t9 := Tryz.underlying9
  a9 := Tryz.isAgg9
  z9 := Tryz.sizeOf9
  v9 := Tryz.zeroValue9
  t20 := Tryz.underlying20
  a20 := Tryz.isAgg20
  z20 := Tryz.sizeOf20
  v20 := Tryz.zeroValue20
  t37 := Tryz.underlying230
  a37 := Tryz.isAgg230
  z37 := Tryz.sizeOf230
  v37 := Tryz.zeroValue230
  t46 := Tryz.underlying254
  a46 := Tryz.isAgg254
  z46 := Tryz.sizeOf254
  v46 := Tryz.zeroValue254
  t51 := Tryz.underlying111
  a51 := Tryz.isAgg111
  z51 := Tryz.sizeOf111
  v51 := Tryz.zeroValue111
  t53 := Tryz.underlying263
  a53 := Tryz.isAgg263
  z53 := Tryz.sizeOf263
  v53 := Tryz.zeroValue263
  t171 := Tryz.underlying266
  a171 := Tryz.isAgg266
  z171 := Tryz.sizeOf266
  v171 := Tryz.zeroValue266
  t173 := Tryz.underlying269
  a173 := Tryz.isAgg269
  z173 := Tryz.sizeOf269
  v173 := Tryz.zeroValue269
  t212 := Tryz.underlying272
  a212 := Tryz.isAgg272
  z212 := Tryz.sizeOf272
  v212 := Tryz.zeroValue272
  t213 := Tryz.underlying273
  a213 := Tryz.isAgg273
  z213 := Tryz.sizeOf273
  t232 := Tryz.underlying282
  a232 := Tryz.isAgg282
  z232 := Tryz.sizeOf282
  v232 := Tryz.zeroValue282
  t233 := Tryz.underlying283
  a233 := Tryz.isAgg283
  z233 := Tryz.sizeOf283
  v233 := Tryz.zeroValue283
  g17 := by kernel_rfl
  g18 := by kernel_rfl
  g19 := by kernel_rfl
  i0 := by kernel_rfl
  i2 := by kernel_rfl
  i3 := by kernel_rfl
  i4 := by kernel_rfl
  i5 := by kernel_rfl
  i9 := by kernel_rfl
  i20 := by kernel_rfl
  i37 := by kernel_rfl
  i46 := by kernel_rfl
  i51 := by kernel_rfl
  i53 := by kernel_rfl
  i171 := by kernel_rfl
  i173 := by kernel_rfl
  i212 := by kernel_rfl
  i232 := by kernel_rfl
  i233 := by kernel_rfl
  m17 := by kernel_rfl
  m18 := by kernel_rfl
  m19 := by kernel_rfl }
open Go.RowKit Go.Sort Go.Lib in
/-- strconv.Itoa: "Itoa is equivalent to FormatInt(int64(i), 10).": i's DECIMAL NUMERAL ('Lib.itoa': a '-' where i is negative, then the digits), FOR EVERY int. The world behind the call: the world before it, new blocks behind the heap (the library's 'var a [24]byte'), draws. (LAID: no walk: one application.) -/
theorem Tryz.strconv_Itoa (n : Int) (h0 : -9223372036854775808 ≤ n) (h1 : n ≤ 9223372036854775807) (w : World) (htab : Lib.TabIs Tryz.prog w "internal/strconv.uint64pow10" .u64 Lib.pow10Tab) :
    Calls Tryz.prog 159 #[.int .i64 n] w fun e w' => e = .returned (.string ⟨(Lib.itoa n).toArray⟩) ∧ ∃ k os, w' = grow (w.drewN k) os := Any.strconv_Itoa Tryz.laysM171 n h0 h1 w htab
end Go.Proofs
end
section
/- The text of an air. -/
set_option maxRecDepth 100000
set_option maxHeartbeats 2000000
namespace Go.Fly.Tryz
open Go Go.RowKit Go.Sort

theorem kItoa_ok : Holds Proofs.Tryz.prog G0 159 itoaC := Holds.of_calls (fun rl args => by unfold itoaC; split <;> rfl) fun rl args w M vs hG hargs hpre => by
  unfold itoaC at hpre ⊢
  split at hpre
  · rename_i n
    obtain ⟨hs, hv⟩ := hargs
    obtain ⟨v0, rfl⟩ : ∃ v0, vs = #[v0] := by
      have : vs.size = 1 := hs
      match vs, this with
      | ⟨[v]⟩, _ => exact ⟨v, rfl⟩
    have h0 : v0 = .int .i64 n := (hv 0 _ rfl).int_inv
    subst h0
    have h3 := hG 3
    rw [G0_3] at h3
    have htab : Lib.TabIs Proofs.Tryz.prog w "internal/strconv.uint64pow10" .u64 Lib.pow10Tab := by
      have hg : Proofs.Tryz.prog.globalNamed "internal/strconv.uint64pow10" = some 3 := by kernel_rfl
      generalize hq : ([Value.int .u64 1, .int .u64 10, .int .u64 100, .int .u64 1000, .int .u64 10000, .int .u64 100000, .int .u64 1000000, .int .u64 10000000, .int .u64 100000000, .int .u64 1000000000, .int .u64 10000000000, .int .u64 100000000000, .int .u64 1000000000000, .int .u64 10000000000000, .int .u64 100000000000000, .int .u64 1000000000000000, .int .u64 10000000000000000, .int .u64 100000000000000000, .int .u64 1000000000000000000, .int .u64 10000000000000000000] : List Value) = q at h3
      cases h3 with
      | tabp _ _ ty fz hM hb hh =>
        have hh' : w.heap[3]? = some (.cells q.toArray ty fz) := hh
        unfold Lib.TabIs World.var?
        rw [hg]
        show (match w.heap[3]? with
          | some (.cells cs _ _) => some cs
          | _ => none) = _
        rw [hh']
        subst hq
        rfl
    refine (Proofs.Tryz.strconv_Itoa n hpre.1 hpre.2 w htab).mono ?_
    rintro e w' ⟨rfl, k, os, rfl⟩
    exact ⟨_, rfl, below_grow .., fun k => .str _⟩
  · exact hpre.elim

theorem kJoin_ok : Holds Proofs.Tryz.prog G0 131 joinC := Holds.of_calls (fun rl args => by unfold joinC; split <;> rfl) fun rl args w M vs hG hargs hpre => by
  unfold joinC at hpre ⊢
  split at hpre
  · rename_i n sz get sep
    obtain ⟨rfl, hst, hn, hlen⟩ := hpre
    obtain ⟨hs, hv⟩ := hargs
    obtain ⟨v0, v1, rfl⟩ : ∃ v0 v1, vs = #[v0, v1] := by
      have : vs.size = 2 := hs
      match vs, this with
      | ⟨[v, u]⟩, _ => exact ⟨v, u, rfl⟩
    have h1 : v1 = .string ⟨sep.toArray⟩ := (hv 1 _ rfl).str_inv
    subst h1
    have h0 : R (bareK w M) (.sl n 1 get) v0 := hv 0 _ rfl
    cases h0 with
    | sl0 _ _ oa cap =>
      refine (Proofs.Tryz.strings_Join_none oa cap ⟨sep.toArray⟩ w).mono ?_
      rintro e w' ⟨rfl, rfl⟩
      exact ⟨_, rfl, Below.refl _ _, fun k => .str []⟩
    | sl _ _ _ b off cap x hM hb hcap hp hl hc hr =>
      have hb' : b < w.heap.size := hb
      have hxs : ∀ (j : Nat) (y : ByteArray), ((List.range n).map fun i => (⟨(strAt get i).toArray⟩ : ByteArray))[j]? = some y → w.cell? ⟨b, off + j, none⟩ = some (.string y) := fun j y hy => by
        rw [List.getElem?_map] at hy
        rcases Nat.lt_or_ge j n with q | q
        · rw [List.getElem?_range q] at hy
          cases hy
          have e1 := hc j 0 q (by decide)
          have e2 := hr j 0 (.str (strAt get j)) q (by rw [hst.2 j q]; rfl)
          rw [e2.str_inv, Nat.mul_one] at e1
          exact e1
        · rw [List.getElem?_eq_none (by rw [List.length_range]; exact q)] at hy
          cases hy
      have hjl : ((List.range n).map fun i => (⟨(strAt get i).toArray⟩ : ByteArray)).map (·.data.toList) = (List.range n).map (strAt get) := by
        rw [List.map_map]; exact List.map_congr_left fun i _ => rfl
      have hl2 : ((List.range n).map fun i => (⟨(strAt get i).toArray⟩ : ByteArray)).length = n := by rw [List.length_map, List.length_range]
      have := Proofs.Tryz.strings_Join b off cap ((List.range n).map fun i => (⟨(strAt get i).toArray⟩ : ByteArray)) ⟨sep.toArray⟩ w hxs hb' (by rw [hl2]; omega) (by rw [hl2]; exact hcap) (by rw [hjl]; exact hlen)
      rw [hl2, hjl] at this
      refine this.mono ?_
      rintro e w' ⟨rfl, hbel⟩
      exact ⟨_, rfl, hbel, fun k => .str _⟩
  · exact hpre.elim

theorem kMapI_ok : Holds Proofs.Tryz.prog G0 158 (mapItoaC 159) := by
  refine Holds.of_exC D158 Proofs.Tryz.func158 rfl foll (by kernel_rfl) (tab [(159, itoaC)]) (tab_ok ⟨kItoa_ok, trivial⟩) G0_ok fun k0 rl args hpu hpre => ?_
  unfold mapItoaC at hpre ⊢
  split at hpre
  rotate_left
  · exact hpre.elim
  rename_i n sz get g
  obtain ⟨rfl, hin, rfl, hn, h64⟩ := hpre
  have hpu := hin.pu
  simp only [Proofs.Tryz.f158]
  rw [enter_mkT (Nat.le_of_ble_eq_true rfl)]
  simp (maxSteps := 4000000) only [go_sem, ↓op_move, ↓op_assign, ↓op_pick, ↓op_alloc, ↓op_box, ↓op_build, ↓op_buildSlice, ↓op_load, ↓op_store, ↓op_nilCheck, ↓op_bin, ↓op_un, ↓op_convert, ↓op_makeFunc, ↓op_makeSlice, ↓op_slice, ↓op_fieldAddr, ↓op_field, ↓op_indexAddr, ↓op_index, ↓op_extract, ↓op_lookup, ↓op_mapUpdate, ↓op_makeMap, ↓op_range, ↓op_next, ↓op_call, ↓op_builtin, ↓g_tt, ↓g_ff, ↓g_tf, ↓g_ft, ↓g_tnt, ↓g_tnf, ↓g_fnt, ↓g_fnf, ↓mkT_getD, hpu]
  refine RestT.ents (Ents.nilArr (d := 5) (l := (4, 1000)) 1 (fun _ => []) rfl rfl rfl) ?_
  simp (maxSteps := 4000000) only [go_sem, ↓op_move, ↓op_assign, ↓op_pick, ↓op_alloc, ↓op_box, ↓op_build, ↓op_buildSlice, ↓op_load, ↓op_store, ↓op_nilCheck, ↓op_bin, ↓op_un, ↓op_convert, ↓op_makeFunc, ↓op_makeSlice, ↓op_slice, ↓op_fieldAddr, ↓op_field, ↓op_indexAddr, ↓op_index, ↓op_extract, ↓op_lookup, ↓op_mapUpdate, ↓op_makeMap, ↓op_range, ↓op_next, ↓op_call, ↓op_builtin, ↓g_tt, ↓g_ff, ↓g_tf, ↓g_ft, ↓g_tnt, ↓g_tnf, ↓g_fnt, ↓g_fnf, ↓mkT_getD]
  refine RestT.loopF (β := Nat) [(5, 5), (7, 7), (10, 20)] (fun i => [(5, .msl (4, 1000) 0 i), (10, .int .i64 i)]) (fun i => updH (fun _ => none) (4, 1000) (.arr i 1 (strsG fun i => Lib.itoa (intAt get i)))) (fun i => i ≤ n) (fun i => n - i) 0 (Nat.zero_le _) ?_
    (HpLe.arr1 (updH_same _ _ _) rfl rfl fun i hi => by omega) ?_
  · simp (maxSteps := 4000000) only [go_sem, ↓op_move, ↓op_assign, ↓op_pick, ↓op_alloc, ↓op_box, ↓op_build, ↓op_buildSlice, ↓op_load, ↓op_store, ↓op_nilCheck, ↓op_bin, ↓op_un, ↓op_convert, ↓op_makeFunc, ↓op_makeSlice, ↓op_slice, ↓op_fieldAddr, ↓op_field, ↓op_indexAddr, ↓op_index, ↓op_extract, ↓op_lookup, ↓op_mapUpdate, ↓op_makeMap, ↓op_range, ↓op_next, ↓op_call, ↓op_builtin, ↓g_tt, ↓g_ff, ↓g_tf, ↓g_ft, ↓g_tnt, ↓g_tnf, ↓g_fnt, ↓g_fnf, ↓mkT_getD]
    try simp
  · intro ck i hck hi
    generalize hq0 : exC _ _ _ _ _ = gg
    by_cases hlt : i < n
    · have hd : decide ((i : Int) < (n : Int)) = true := by simp; omega
      have hg := hin.2 i hlt
      rw [← hq0]
      clear hq0
      simp (maxSteps := 4000000) only [go_sem, ↓op_move, ↓op_assign, ↓op_pick, ↓op_alloc, ↓op_box, ↓op_build, ↓op_buildSlice, ↓op_load, ↓op_store, ↓op_nilCheck, ↓op_bin, ↓op_un, ↓op_convert, ↓op_makeFunc, ↓op_makeSlice, ↓op_slice, ↓op_fieldAddr, ↓op_field, ↓op_indexAddr, ↓op_index, ↓op_extract, ↓op_lookup, ↓op_mapUpdate, ↓op_makeMap, ↓op_range, ↓op_next, ↓op_call, ↓op_builtin, ↓g_tt, ↓g_ff, ↓g_tf, ↓g_ft, ↓g_tnt, ↓g_tnf, ↓g_fnt, ↓g_fnf, ↓mkT_getD, hg, hd, hpu]
      exact ⟨⟨by omega, by omega⟩, h64 i hlt, ⟨by omega, by omega, row_ok rfl fun v hv => by rw [List.mem_singleton.1 hv]; exact ⟨.str _, rfl⟩⟩, inK_of (by omega) (by omega), i + 1, hlt, by omega, ⟨rfl, rfl⟩, HpLe.arr1 (updH_same _ _ _) rfl rfl fun j hj => snoc (f := strsG fun i => Lib.itoa (intAt get i)) rfl rfl hj⟩
    · have hd : decide ((i : Int) < (n : Int)) = false := by simp; omega
      obtain rfl : i = n := by omega
      rw [← hq0]
      clear hq0
      simp (maxSteps := 4000000) only [go_sem, ↓op_move, ↓op_assign, ↓op_pick, ↓op_alloc, ↓op_box, ↓op_build, ↓op_buildSlice, ↓op_load, ↓op_store, ↓op_nilCheck, ↓op_bin, ↓op_un, ↓op_convert, ↓op_makeFunc, ↓op_makeSlice, ↓op_slice, ↓op_fieldAddr, ↓op_field, ↓op_indexAddr, ↓op_index, ↓op_extract, ↓op_lookup, ↓op_mapUpdate, ↓op_makeMap, ↓op_range, ↓op_next, ↓op_call, ↓op_builtin, ↓g_tt, ↓g_ff, ↓g_tf, ↓g_ft, ↓g_tnt, ↓g_tnf, ↓g_fnt, ↓g_fnf, ↓mkT_getD, hd, hpu, Nat.zero_add]
      exact VEnt.sl fun k hk => frzRow_pu fun v hv => by rw [show strsG (fun i => Lib.itoa (intAt get i)) k = [V.str (Lib.itoa (intAt get k))] from rfl, List.mem_singleton] at hv; rw [hv]; exact .str _

theorem kLine_ok : Holds Proofs.Tryz.prog G0 133 lineC := by
  refine Holds.of_exC D133 Proofs.Tryz.func133 rfl foll (by kernel_rfl) (tab [(131, joinC), (158, mapItoaC 159), (159, itoaC), (iceKey 1, iceC)]) (tab_ok ⟨kJoin_ok, kMapI_ok, kItoa_ok, ice_holds, trivial⟩) G0_ok fun k0 rl args hpu hpre => ?_
  unfold lineC at hpre ⊢
  split at hpre
  rotate_left
  · exact hpre.elim
  rename_i th sp wx wy m sz g
  obtain ⟨rfl, hiv, hm, h64⟩ := hpre
  have hpu := hiv.pu
  simp only [Proofs.Tryz.f133]
  rw [enter_mkT (Nat.le_of_ble_eq_true rfl)]
  simp (maxSteps := 4000000) only [go_sem, ↓op_move, ↓op_assign, ↓op_pick, ↓op_alloc, ↓op_box, ↓op_build, ↓op_buildSlice, ↓op_load, ↓op_store, ↓op_nilCheck, ↓op_bin, ↓op_un, ↓op_convert, ↓op_makeFunc, ↓op_makeSlice, ↓op_slice, ↓op_fieldAddr, ↓op_field, ↓op_indexAddr, ↓op_index, ↓op_extract, ↓op_lookup, ↓op_mapUpdate, ↓op_makeMap, ↓op_range, ↓op_next, ↓op_call, ↓op_builtin, ↓g_tt, ↓g_ff, ↓g_tf, ↓g_ft, ↓g_tnt, ↓g_tnf, ↓g_fnt, ↓g_fnf, ↓mkT_getD, hpu]
  refine RestT.loopG (β := Nat) [(3, 3), (5, 5), (20, 31)] (fun i => [(3, .msl (3, 16) 0 (4 + 2 * i)), (20, .int .i64 i)]) (fun i => updH (fun _ => none) (3, 16) (.arr (4 + 2 * i) 1 (fun j => [.int .i64 (lineI th sp wx wy g j)]))) (fun _ i => i ≤ m) (fun i => m - i) 0 (Nat.zero_le _) ?_
    (HpLe.arr1 (updH_same _ _ _) rfl rfl fun j hj => ?_) ?_
  · simp (maxSteps := 4000000) only [go_sem, ↓op_move, ↓op_assign, ↓op_pick, ↓op_alloc, ↓op_box, ↓op_build, ↓op_buildSlice, ↓op_load, ↓op_store, ↓op_nilCheck, ↓op_bin, ↓op_un, ↓op_convert, ↓op_makeFunc, ↓op_makeSlice, ↓op_slice, ↓op_fieldAddr, ↓op_field, ↓op_indexAddr, ↓op_index, ↓op_extract, ↓op_lookup, ↓op_mapUpdate, ↓op_makeMap, ↓op_range, ↓op_next, ↓op_call, ↓op_builtin, ↓g_tt, ↓g_ff, ↓g_tf, ↓g_ft, ↓g_tnt, ↓g_tnf, ↓g_fnt, ↓g_fnf, ↓mkT_getD]
    try simp
  · rcases j with _ | _ | _ | _ | j
    · rfl
    · rfl
    · rfl
    · rfl
    · omega
  · intro ck i hck hi
    generalize hq0 : exC _ _ _ _ _ = gg
    by_cases hlt : i < m
    · have hd : decide ((i : Int) < (m : Int)) = true := by simp; omega
      have hg := hiv.2 i hlt
      rw [← hq0]
      clear hq0
      simp (maxSteps := 4000000) only [go_sem, ↓op_move, ↓op_assign, ↓op_pick, ↓op_alloc, ↓op_box, ↓op_build, ↓op_buildSlice, ↓op_load, ↓op_store, ↓op_nilCheck, ↓op_bin, ↓op_un, ↓op_convert, ↓op_makeFunc, ↓op_makeSlice, ↓op_slice, ↓op_fieldAddr, ↓op_field, ↓op_indexAddr, ↓op_index, ↓op_extract, ↓op_lookup, ↓op_mapUpdate, ↓op_makeMap, ↓op_range, ↓op_next, ↓op_call, ↓op_builtin, ↓g_tt, ↓g_ff, ↓g_tf, ↓g_ft, ↓g_tnt, ↓g_tnf, ↓g_fnt, ↓g_fnf, ↓mkT_getD, hg, hd, hpu]
      refine ⟨⟨by omega, by omega⟩, ⟨by omega, by omega, fun k hk v hv => ?_⟩, inK_of (by omega) (by omega), i + 1, by omega, by omega, ⟨rfl, by rw [Int.natCast_add]; rfl⟩, HpLe.arr1 (updH_same _ _ _) rfl rfl fun j hj => ?_⟩
      · have hv := ones2 v (by rcases k with _ | _ | k
                               · simpa [rowAt] using Or.inl hv
                               · simpa [rowAt] using Or.inr hv
                               · omega)
        exact ⟨.inl hv.1, hv.2⟩
      · by_cases h1 : j < 4 + 2 * i
        · rw [if_pos h1]
        · rw [if_neg h1]
          have h2 : j = 4 + 2 * i ∨ j = 4 + 2 * i + 1 := by omega
          rcases h2 with rfl | rfl
          · have e1 : lineI th sp wx wy g (4 + 2 * i) = cell g i 0 := by
              unfold lineI
              rw [if_neg (by omega), show 4 + 2 * i - 4 = 2 * i by omega, Nat.mul_div_cancel_left _ (by decide), Nat.mul_mod_right]
            rw [e1, Nat.sub_self]; rfl
          · have e1 : lineI th sp wx wy g (4 + 2 * i + 1) = cell g i 1 := by
              unfold lineI
              rw [if_neg (by omega), show 4 + 2 * i + 1 - 4 = 2 * i + 1 by omega, show (2 * i + 1) / 2 = i by omega, show (2 * i + 1) % 2 = 1 by omega]
            rw [e1, show 4 + 2 * i + 1 - (4 + 2 * i) = 1 by omega]; rfl
    · have hd : decide ((i : Int) < (m : Int)) = false := by simp; omega
      obtain rfl : i = m := by omega
      rw [← hq0]
      clear hq0
      have hpn : Pu (.sl (4 + 2 * i) 1 fun j => [V.int .i64 (lineI th sp wx wy g j)]) := pu_sl.2 fun j _ v hv => by rw [List.mem_singleton.1 hv]; exact .int _ _
      simp (maxSteps := 4000000) only [go_sem, ↓op_move, ↓op_assign, ↓op_pick, ↓op_alloc, ↓op_box, ↓op_build, ↓op_buildSlice, ↓op_load, ↓op_store, ↓op_nilCheck, ↓op_bin, ↓op_un, ↓op_convert, ↓op_makeFunc, ↓op_makeSlice, ↓op_slice, ↓op_fieldAddr, ↓op_field, ↓op_indexAddr, ↓op_index, ↓op_extract, ↓op_lookup, ↓op_mapUpdate, ↓op_makeMap, ↓op_range, ↓op_next, ↓op_call, ↓op_builtin, ↓g_tt, ↓g_ff, ↓g_tf, ↓g_ft, ↓g_tnt, ↓g_tnf, ↓g_fnt, ↓g_fnf, ↓mkT_getD, hd, hpu, hpn, Nat.zero_add]
      refine ⟨_, Ents.kill (d := 3) (l := (3, 16)) (n := 4 + 2 * i) rfl rfl fun a b v _ hv => (ones1 v (List.mem_of_getElem? hv)).1, ?_⟩
      have hrow : ∀ (hp : Heap) (k : Nat), frzRow (frz 4 hp) (if k < 1 then rowAt [V.str [108, 97, 121, 101, 114]] 1 k else strsG (fun i => Lib.itoa (lineI th sp wx wy g i)) (k - 1)) = [V.str (lineS th sp wx wy g k)] := fun hp k => by
        have e : (if k < 1 then rowAt [V.str [108, 97, 121, 101, 114]] 1 k else strsG (fun i => Lib.itoa (lineI th sp wx wy g i)) (k - 1)) = [V.str (lineS th sp wx wy g k)] := by
          unfold lineS
          by_cases h : k = 0
          · subst h; rfl
          · rw [if_neg (by omega), if_neg h]; rfl
        rw [e]
        exact frzRow_pu fun v hv => by rw [List.mem_singleton.1 hv]; exact .str _
      have hjb : joinB (1 + (4 + 2 * i)) (fun k => [V.str (lineS th sp wx wy g k)]) [32] = Lib.join ((List.range (1 + (4 + 2 * i))).map (lineS th sp wx wy g)) [32] := rfl
      have hjl := lineB_len (m := i) (g := g) h64 hm
      simp (maxSteps := 4000000) only [go_sem, ↓op_move, ↓op_assign, ↓op_pick, ↓op_alloc, ↓op_box, ↓op_build, ↓op_buildSlice, ↓op_load, ↓op_store, ↓op_nilCheck, ↓op_bin, ↓op_un, ↓op_convert, ↓op_makeFunc, ↓op_makeSlice, ↓op_slice, ↓op_fieldAddr, ↓op_field, ↓op_indexAddr, ↓op_index, ↓op_extract, ↓op_lookup, ↓op_mapUpdate, ↓op_makeMap, ↓op_range, ↓op_next, ↓op_call, ↓op_builtin, ↓g_tt, ↓g_ff, ↓g_tf, ↓g_ft, ↓g_tnt, ↓g_tnf, ↓g_fnt, ↓g_fnf, ↓mkT_getD, hd, hpu, hpn, Nat.zero_add, hrow, hjb]
      refine ⟨⟨⟨isInts_fn (lineI th sp wx wy g) (by omega), by omega, fun k hk => lineI_64 h64 hk⟩, (isStrs_fn (by omega)).pu⟩, ⟨by omega, by omega, fun k hk v hv => ?_⟩, ⟨⟨isStrs_fn (f := lineS th sp wx wy g) (by omega), by omega, by omega⟩, .str _⟩, by omega, VEnt.of_eq rfl⟩
      rw [show strsG (fun i => Lib.itoa (lineI th sp wx wy g i)) k = [V.str (Lib.itoa (lineI th sp wx wy g k))] from rfl, List.mem_singleton] at hv
      rw [hv]
      exact ⟨.inl (.str _), rfl⟩

theorem kMapL_ok : Holds Proofs.Tryz.prog G0 132 (mapLineC 133) := by
  refine Holds.of_exC D132 Proofs.Tryz.func132 rfl foll (by kernel_rfl) (tab [(133, lineC)]) (tab_ok ⟨kLine_ok, trivial⟩) G0_ok fun k0 rl args hpu hpre => ?_
  unfold mapLineC at hpre ⊢
  split at hpre
  rotate_left
  · exact hpre.elim
  rename_i n sz get g
  obtain ⟨rfl, hair, rfl, hn, hb⟩ := hpre
  have hpu := hair.pu
  simp only [Proofs.Tryz.f132]
  rw [enter_mkT (Nat.le_of_ble_eq_true rfl)]
  simp (maxSteps := 4000000) only [go_sem, ↓op_move, ↓op_assign, ↓op_pick, ↓op_alloc, ↓op_box, ↓op_build, ↓op_buildSlice, ↓op_load, ↓op_store, ↓op_nilCheck, ↓op_bin, ↓op_un, ↓op_convert, ↓op_makeFunc, ↓op_makeSlice, ↓op_slice, ↓op_fieldAddr, ↓op_field, ↓op_indexAddr, ↓op_index, ↓op_extract, ↓op_lookup, ↓op_mapUpdate, ↓op_makeMap, ↓op_range, ↓op_next, ↓op_call, ↓op_builtin, ↓g_tt, ↓g_ff, ↓g_tf, ↓g_ft, ↓g_tnt, ↓g_tnf, ↓g_fnt, ↓g_fnf, ↓mkT_getD, hpu]
  refine RestT.ents (Ents.nilArr (d := 5) (l := (4, 1000)) 1 (fun _ => []) rfl rfl rfl) ?_
  simp (maxSteps := 4000000) only [go_sem, ↓op_move, ↓op_assign, ↓op_pick, ↓op_alloc, ↓op_box, ↓op_build, ↓op_buildSlice, ↓op_load, ↓op_store, ↓op_nilCheck, ↓op_bin, ↓op_un, ↓op_convert, ↓op_makeFunc, ↓op_makeSlice, ↓op_slice, ↓op_fieldAddr, ↓op_field, ↓op_indexAddr, ↓op_index, ↓op_extract, ↓op_lookup, ↓op_mapUpdate, ↓op_makeMap, ↓op_range, ↓op_next, ↓op_call, ↓op_builtin, ↓g_tt, ↓g_ff, ↓g_tf, ↓g_ft, ↓g_tnt, ↓g_tnf, ↓g_fnt, ↓g_fnf, ↓mkT_getD]
  refine RestT.loopF (β := Nat) [(5, 5), (7, 7), (10, 20)] (fun i => [(5, .msl (4, 1000) 0 i), (10, .int .i64 i)]) (fun i => updH (fun _ => none) (4, 1000) (.arr i 1 (strsG (lineG get)))) (fun i => i ≤ n) (fun i => n - i) 0 (Nat.zero_le _) ?_
    (HpLe.arr1 (updH_same _ _ _) rfl rfl fun i hi => by omega) ?_
  · simp (maxSteps := 4000000) only [go_sem, ↓op_move, ↓op_assign, ↓op_pick, ↓op_alloc, ↓op_box, ↓op_build, ↓op_buildSlice, ↓op_load, ↓op_store, ↓op_nilCheck, ↓op_bin, ↓op_un, ↓op_convert, ↓op_makeFunc, ↓op_makeSlice, ↓op_slice, ↓op_fieldAddr, ↓op_field, ↓op_indexAddr, ↓op_index, ↓op_extract, ↓op_lookup, ↓op_mapUpdate, ↓op_makeMap, ↓op_range, ↓op_next, ↓op_call, ↓op_builtin, ↓g_tt, ↓g_ff, ↓g_tf, ↓g_ft, ↓g_tnt, ↓g_tnf, ↓g_fnt, ↓g_fnf, ↓mkT_getD]
    try simp
  · intro ck i hck hi
    generalize hq0 : exC _ _ _ _ _ = gg
    by_cases hlt : i < n
    · have hd : decide ((i : Int) < (n : Int)) = true := by simp; omega
      obtain ⟨hg, hiv⟩ := hair.2 i hlt
      have hp2 := hiv.pu
      obtain ⟨b1, b2, b3⟩ := hb i hlt
      rw [← hq0]
      clear hq0
      simp (maxSteps := 4000000) only [go_sem, ↓op_move, ↓op_assign, ↓op_pick, ↓op_alloc, ↓op_box, ↓op_build, ↓op_buildSlice, ↓op_load, ↓op_store, ↓op_nilCheck, ↓op_bin, ↓op_un, ↓op_convert, ↓op_makeFunc, ↓op_makeSlice, ↓op_slice, ↓op_fieldAddr, ↓op_field, ↓op_indexAddr, ↓op_index, ↓op_extract, ↓op_lookup, ↓op_mapUpdate, ↓op_makeMap, ↓op_range, ↓op_next, ↓op_call, ↓op_builtin, ↓g_tt, ↓g_ff, ↓g_tf, ↓g_ft, ↓g_tnt, ↓g_tnf, ↓g_fnt, ↓g_fnf, ↓mkT_getD, hg, hd, hpu, hp2]
      refine ⟨⟨by omega, by omega⟩, ⟨hiv, b1, b2, b3⟩, ⟨by omega, by omega, row_ok rfl fun v hv => by rw [List.mem_singleton.1 hv]; exact ⟨.str _, rfl⟩⟩, inK_of (by omega) (by omega), i + 1, hlt, by omega, ⟨rfl, rfl⟩, HpLe.arr1 (updH_same _ _ _) rfl rfl fun j hj => snoc (f := strsG (lineG get)) rfl rfl hj⟩
    · have hd : decide ((i : Int) < (n : Int)) = false := by simp; omega
      obtain rfl : i = n := by omega
      rw [← hq0]
      clear hq0
      simp (maxSteps := 4000000) only [go_sem, ↓op_move, ↓op_assign, ↓op_pick, ↓op_alloc, ↓op_box, ↓op_build, ↓op_buildSlice, ↓op_load, ↓op_store, ↓op_nilCheck, ↓op_bin, ↓op_un, ↓op_convert, ↓op_makeFunc, ↓op_makeSlice, ↓op_slice, ↓op_fieldAddr, ↓op_field, ↓op_indexAddr, ↓op_index, ↓op_extract, ↓op_lookup, ↓op_mapUpdate, ↓op_makeMap, ↓op_range, ↓op_next, ↓op_call, ↓op_builtin, ↓g_tt, ↓g_ff, ↓g_tf, ↓g_ft, ↓g_tnt, ↓g_tnf, ↓g_fnt, ↓g_fnf, ↓mkT_getD, hd, hpu, Nat.zero_add]
      exact VEnt.sl fun k hk => frzRow_pu fun v hv => by rw [show strsG (lineG get) k = [V.str (lineG get k)] from rfl, List.mem_singleton] at hv; rw [hv]; exact .str _

theorem kPrint_ok : Holds Proofs.Tryz.prog G0 71 print3C := by
  refine Holds.of_exC D71 Proofs.Tryz.func71 rfl foll (by kernel_rfl) (tab [(27, airC), (131, joinC), (132, mapLineC 133), (133, lineC)]) (tab_ok ⟨aAir_ok, kJoin_ok, kMapL_ok, kLine_ok, trivial⟩) G0_ok fun k0 rl args hpu hpre => ?_
  unfold print3C at hpre ⊢
  split at hpre
  rotate_left
  · exact hpre.elim
  rename_i n sz get
  obtain ⟨rfl, hair⟩ := hpre
  have hpu := hair.pu
  by_cases hae : airE n get = 0
  · have hok := airE_ok hae
    have hd : decide (airE n get = 0) = true := decide_eq_true hae
    simp only [Proofs.Tryz.f71]
    rw [enter_mkT (Nat.le_of_ble_eq_true rfl)]
    simp (maxSteps := 4000000) only [go_sem, ↓op_move, ↓op_assign, ↓op_pick, ↓op_alloc, ↓op_box, ↓op_build, ↓op_buildSlice, ↓op_load, ↓op_store, ↓op_nilCheck, ↓op_bin, ↓op_un, ↓op_convert, ↓op_makeFunc, ↓op_makeSlice, ↓op_slice, ↓op_fieldAddr, ↓op_field, ↓op_indexAddr, ↓op_index, ↓op_extract, ↓op_lookup, ↓op_mapUpdate, ↓op_makeMap, ↓op_range, ↓op_next, ↓op_call, ↓op_builtin, ↓g_tt, ↓g_ff, ↓g_tf, ↓g_ft, ↓g_tnt, ↓g_tnf, ↓g_fnt, ↓g_fnf, ↓mkT_getD, hpu, hd]
    rw [orE_no hae]
    have hcn := hok.cnt
    have hbn := hok.bands
    have h64 : ∀ i, i < n → inN get i 4 ≤ 1000 ∧ (In64 (cell get i 0) ∧ In64 (cell get i 1) ∧ In64 (cell get i 2) ∧ In64 (cell get i 3)) ∧ ∀ k, k < inN get i 4 → In64 (cell (inG get i 4) k 0) ∧ In64 (cell (inG get i 4) k 1) := fun i hi => by
      have h1 := hok.th i hi
      have h2 := hok.same i hi
      have h3 := airE_wind hae hi
      refine ⟨by omega, ⟨⟨by omega, by omega⟩, ⟨by omega, by omega⟩, ⟨by omega, by omega⟩, ⟨by omega, by omega⟩⟩, fun k hk => ?_⟩
      have h4 := hok.pass i hi k (by omega)
      exact ⟨⟨by omega, by omega⟩, ⟨by omega, by omega⟩⟩
    have hjl : (joinB n (strsG (lineG get)) []).length ≤ 140737488355328 := by
      have h1 := join_le (l := (List.range n).map (lineG get)) (sep := []) (m := 100001) fun x hx => by
        obtain ⟨j, hj, rfl⟩ := List.mem_map.1 hx
        have hj := List.mem_range.1 hj
        have := h64 j hj
        have := lineB_len this.2 this.1
        unfold lineG lineB
        rw [List.length_append]
        simp only [List.length_cons, List.length_nil]
        omega
      rw [List.length_map, List.length_range] at h1
      simp only [List.length_nil] at h1
      show (Lib.join ((List.range n).map (lineG get)) []).length ≤ _
      omega
    exact ⟨hair, ⟨⟨hair, by omega, h64⟩, (isStrs_fn (by omega)).pu⟩, ⟨⟨isStrs_fn (by omega), by omega, hjl⟩, .inl (isStrs_fn (by omega)).pu⟩, VEnt.of_eq rfl⟩
  · have hd : decide (airE n get = 0) = false := decide_eq_false hae
    simp only [Proofs.Tryz.f71]
    rw [enter_mkT (Nat.le_of_ble_eq_true rfl)]
    simp (maxSteps := 4000000) only [go_sem, ↓op_move, ↓op_assign, ↓op_pick, ↓op_alloc, ↓op_box, ↓op_build, ↓op_buildSlice, ↓op_load, ↓op_store, ↓op_nilCheck, ↓op_bin, ↓op_un, ↓op_convert, ↓op_makeFunc, ↓op_makeSlice, ↓op_slice, ↓op_fieldAddr, ↓op_field, ↓op_indexAddr, ↓op_index, ↓op_extract, ↓op_lookup, ↓op_mapUpdate, ↓op_makeMap, ↓op_range, ↓op_next, ↓op_call, ↓op_builtin, ↓g_tt, ↓g_ff, ↓g_tf, ↓g_ft, ↓g_tnt, ↓g_tnf, ↓g_fnt, ↓g_fnf, ↓mkT_getD, hpu, hd]
    rw [orE_err hae]
    exact ⟨hair, VEnt.refl _⟩
end Go.Fly.Tryz
end
