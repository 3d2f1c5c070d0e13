/- Part of a proof: an evaluator of the model's code by abstract values, and plain laws for it. No conditions. -/
import Derived.Test.YtfpoimbidpojnaaDoorAA
import Derived.Laws.RangeString
set_option linter.unusedSimpArgs false
set_option linter.unusedVariables false
section
/- Literals; new variables, boxes, literal slices; stores. -/
namespace Go.Fly
open Go

def tzero (P : Program) (t : TypeId) : Option V := ((P.info? t).bind (·.zero)).map ofValue

theorem run_zero {P : Program} {k : K} {t : TypeId} {z : V} (h : tzero P t = some z) (w : World) : ∃ cz, (zeroValue t).run P w = .ok cz w ∧ R k z cz ∧ cellsV z = cellsV (ofValue cz) ∧ z = ofValue cz := by
  unfold tzero at h
  cases hi : P.info? t with
  | none => simp [hi] at h
  | some i =>
    simp only [hi, Option.bind_some, Option.map_eq_some_iff] at h
    obtain ⟨cz, hz, rfl⟩ := h
    exact ⟨cz, by simp [zeroValue, typeInfo, hi, hz], ofValue_R k cz, rfl, rfl⟩

theorem run_mapM_sizes {P : Program} (w : World) : ∀ fs : List Field, fs.all (fun f => (tagg P f.type).isSome) = true →
    (fs.mapM fun f => do pure (f.offset, ← sizeOf f.type) : Sem (List (Nat × Nat))).run P w = .ok (fs.map fun f => (f.offset, tsz P f.type)) w
  | [], _ => by simp
  | f :: fs, h => by
    simp only [List.all_cons, Bool.and_eq_true] at h
    obtain ⟨b, hb⟩ := Option.isSome_iff_exists.1 h.1
    have ih := run_mapM_sizes w fs h.2
    simp only [List.mapM_cons, Sem.run_bind, Sem.run_pure, Result.andThen_ok, run_sizeOf' hb, ih, List.map_cons]

def buildV (P : Program) (t : TypeId) (parts : List (Nat × V)) : Option V :=
  match tzero P t, P.underlying t with
  | some (.agg z), some (.struct fs) => if fs.toList.all (fun f => (tagg P f.type).isSome) = true then (fillV (fun i => (fs.toList[i]?).map fun f => (f.offset, tsz P f.type)) z parts).map .agg else none
  | some (.agg z), some (.array _ e) => if (tagg P e).isSome = true then (fillV (fun i => some (i * tsz P e, tsz P e)) z parts).map .agg else none
  | _, _ => none

theorem parts_R {k : K} {ev : Operand → V} {ρ : Operand → Value} (hev : ∀ y, R k (ev y) (ρ y)) (parts : Array (Nat × Operand)) :
    (parts.toList.map fun x => (x.1, ev x.2)).map (·.1) = (parts.map fun (i, x) => (i, ρ x)).toList.map (·.1) ∧
    ∀ (j : Nat) (p : Nat × V) (q : Nat × Value), (parts.toList.map fun x => (x.1, ev x.2))[j]? = some p → ((parts.map fun (i, x) => (i, ρ x)).toList)[j]? = some q → R k p.2 q.2 := by
  refine ⟨by simp, fun j p q hp hq => ?_⟩
  obtain ⟨x, hx, rfl⟩ := map_getElem? hp
  simp only [Array.toList_map] at hq
  obtain ⟨y, hy, rfl⟩ := map_getElem? hq
  rw [hx] at hy
  cases hy
  exact hev _

theorem run_build {P : Program} {k : K} {ρ : Operand → Value} {o : Oper} {t : TypeId} {parts : Array (Nat × Operand)} (ho : o.op = .build t parts) {ev : Operand → V} (hev : ∀ y, R k (ev y) (ρ y)) {r : V}
    (h : buildV P t (parts.toList.map fun x => (x.1, ev x.2)) = some r) : ∃ cv, (execOp ρ o).run P k.w = .ok (.value cv) k.w ∧ R k r cv := by
  obtain ⟨hp1, hp2⟩ := parts_R hev parts
  unfold buildV at h
  split at h
  · rename_i z fs hz hu
    split at h
    · rename_i hall
      simp only [Option.map_eq_some_iff] at h
      obtain ⟨cs, hcs, rfl⟩ := h
      obtain ⟨cz, e1, e2, e3, e4⟩ := run_zero (k := k) hz k.w
      obtain ⟨xs, rfl, hsz, hr⟩ := e2.agg_inv
      obtain ⟨cr, f1, f2, f3⟩ := fill_ok _ _ _ z xs cs hp1 hp2 hsz hr hcs
      refine ⟨.agg cr, ?_, .agg _ _ f2 f3⟩
      have hm := run_mapM_sizes (P := P) k.w fs.toList hall
      have hpl : (fun x : Nat => ((fs.toList.map fun f => (f.offset, tsz P f.type)).toArray)[x]?) = fun i => (fs.toList[i]?).map fun f => (f.offset, tsz P f.type) := by
        funext i; simp
      simp only [execOp, ho, Instr.build, Sem.run_bind, e1, Result.andThen_ok, run_underlying hu]
      rw [Array.mapM_eq_mapM_toList]
      simp only [Sem.run_map, hm, Result.andThen_ok, hpl]
      rw [show (Value.agg xs).cells = xs from rfl, f1]
      simp
    · cases h
  · rename_i z n e hz hu
    split at h
    · rename_i hs
      simp only [Option.map_eq_some_iff] at h
      obtain ⟨cs, hcs, rfl⟩ := h
      obtain ⟨b, hb⟩ := Option.isSome_iff_exists.1 hs
      obtain ⟨cz, e1, e2, e3, e4⟩ := run_zero (k := k) hz k.w
      obtain ⟨xs, rfl, hsz, hr⟩ := e2.agg_inv
      obtain ⟨cr, f1, f2, f3⟩ := fill_ok _ _ _ z xs cs hp1 hp2 hsz hr hcs
      refine ⟨.agg cr, ?_, .agg _ _ f2 f3⟩
      simp only [execOp, ho, Instr.build, Sem.run_bind, e1, Result.andThen_ok, run_underlying hu, run_sizeOf' hb]
      rw [show (Value.agg xs).cells = xs from rfl, f1]
      simp
    · cases h
  · cases h

/-! ### New objects -/

theorem new_cells {w : World} {M : Nat → Prop} {B : Loc → Option (Nat × Nat)} {hp : Heap} {ck : Nat} (hk : HeapOk (mkK w M B hp ck)) {l : Loc} (hl : hp l = none) (hck : l.1 = ck)
    {cs : List V} {xs : Array Value} (ty : TypeId) (hs : xs.size = cs.length) (hr : ∀ (j : Nat) (v : V), cs[j]? = some v → R (mkK w M B hp ck) v (xs.getD j undef)) :
    let k' := mkK (w.alloc (.cells xs ty)) (fun b => M b ∨ b = w.heap.size) (updB B l (some (w.heap.size, 0))) (updH hp l (.cells cs)) ck
    Step (mkK w M B hp ck) k' ∧ HeapOk k' ∧ R k' (.ptr l 0) (.pointer (some ⟨w.heap.size, 0, none⟩)) := by
  intro k'
  have h := alloc_ok hk hl hck xs ty 0 (.cells cs) (fun k2 hB hh st => ⟨w.heap.size, 0, xs, ty, (0, 0), hB, hh, fun o => by simp, hs, fun j v hv => (hr j v hv).step st fun b hb => (hk.own b hb).1⟩)
  refine ⟨h.1, h.2, .ptr _ _ _ rfl (.inr ⟨hck, by show (updH hp l _ l).isSome = true; rw [updH_same]; rfl⟩) fun cs' hcs' => ?_⟩
  show _ = eptrVal (updB B l _ l) 0
  rw [updB_same]; rfl

def boxR (s : St) (dst : Option Tmp) (v : V) : Option (V × Heap) :=
  match dst, cellsV v with
  | some d, some cs => match s.hp (s.ck, d) with
    | none => some (.ptr (s.ck, d) 0, updH s.hp (s.ck, d) (.cells cs))
    | some _ => none
  | _, _ => none

theorem box_ok {X : Cx} (hX : X.Ok) {o : Oper} {t : TypeId} {x : Operand} {s : St} {Kn : St → Prop} (ho : o.op = .box t x) {r : V} {hp' : Heap} (h : boxR s o.dst (ev X s x) = some (r, hp'))
    (hK : Kn ⟨s.ck, putTm s.tm o.dst r, hp'⟩) : OpOk X o s Kn := by
  refine OpOk.of_run r hp' (by simp [ho]) (fun M B a w hst hho htm => ?_) hK
  have hx := ev_R hX (ds := a.defers) hst htm x
  unfold boxR at h
  split at h
  · rename_i d cs hd hcs
    split at h
    · rename_i hfree
      simp only [Option.some.injEq, Prod.mk.injEq] at h
      obtain ⟨rfl, rfl⟩ := h
      obtain ⟨h1, h2⟩ := cellsV_R hx hcs
      obtain ⟨q1, q2, q3⟩ := new_cells hho (l := (s.ck, d)) hfree rfl t h1 h2
      exact ⟨_, _, _, _, by simp [execOp, ho, Instr.box, newVar, newRow], q1, q2, q3⟩
    · cases h
  · cases h

/-- A box that is never written: its cells are frozen. -/
def iceV (v : V) : Option (Prop × V) := (cellsV v).map fun cs => (∀ c ∈ cs, Pu c, .cptr cs)

theorem ice_ok {X : Cx} (hX : X.Ok) {o : Oper} {t : TypeId} {x : Operand} {s : St} {Kn : St → Prop} (ho : o.op = .box t x) {p : Prop} {r : V} (h : iceV (ev X s x) = some (p, r)) (hp : p)
    (hK : Kn ⟨s.ck, putTm s.tm o.dst r, s.hp⟩) : OpOk X o s Kn := by
  refine OpOk.of_run r s.hp (by simp [ho]) (fun M B a w hst hho htm => ?_) hK
  have hx := ev_R hX (ds := a.defers) hst htm x
  unfold iceV at h
  cases hc : cellsV (ev X s x) with
  | none => simp [hc] at h
  | some cs =>
    simp only [hc, Option.map_some, Option.some.injEq, Prod.mk.injEq] at h
    obtain ⟨rfl, rfl⟩ := h
    obtain ⟨h1, h2⟩ := cellsV_R hx hc
    let w' := w.alloc (.cells (a.eval x).cells t)
    have hsz : w'.heap.size = w.heap.size + 1 := World.size_alloc w _
    have hho0 := hho
    have ho' : ∀ b, (mkK w M B s.hp s.ck).owned b → b < w.heap.size := fun b hb => (hho.own b hb).2
    have st : Step (mkK w M B s.hp s.ck) (mkK w' M B s.hp s.ck) :=
      ⟨rfl, rfl, rfl, by show w.heap.size ≤ w'.heap.size; omega, fun b hb _ => heap_push_lt hb, fun b hb => .inl hb, fun _ _ h => h, fun _ _ _ h => h, fun _ h => h,
        fun l hl o' ho' => (Step.refl (mkK w M B s.hp s.ck)).names l hl o' ho'⟩
    have hown : ∀ b, (mkK w M B s.hp s.ck).owned b → (mkK w M B s.hp s.ck).M b := fun b hb => (hho.own b hb).1
    refine ⟨.pointer (some ⟨w.heap.size, 0, none⟩), w', M, B, by simp [execOp, ho, Instr.box, newVar, newRow, w'], st, ⟨fun b hb => ?_, fun b hb => ?_, hho.nm, hho.inj, fun l ob hl => ?_⟩, ?_⟩
    · have := hho.lt b hb
      have h3 : b < w.heap.size := this
      show b < w'.heap.size
      omega
    · have := hho.own b hb
      have h3 : b < w.heap.size := this.2
      exact ⟨this.1, by show b < w'.heap.size; omega⟩
    · exact ObjOk.step st hho hl hl rfl fun b c hb => heap_push_lt (hho.own b ⟨l, ob, c, hl, hb⟩).2
    · refine .cptr cs w.heap.size 0 (fun j => (a.eval x).cells.getD j undef) (fun hM => ?_) (by show _ < w'.heap.size; omega) (.cptr _ fun j v hv => hp v (mem_of_get hv)) (fun j hj => ?_) fun j v hv => (h2 j v hv).step st hown
      · have := hho.lt _ hM
        have h3 : w.heap.size < w.heap.size := this
        omega
      · rw [Nat.zero_add]
        exact cell_of_cells (World.alloc_heap_new w _) (by rw [h1]; exact hj)

theorem alloc_op_ok {X : Cx} (hX : X.Ok) {o : Oper} {t : TypeId} {s : St} {Kn : St → Prop} (ho : o.op = .alloc t) {z r : V} {hp' : Heap} (hz : tzero X.P t = some z) (h : boxR s o.dst z = some (r, hp'))
    (hK : Kn ⟨s.ck, putTm s.tm o.dst r, hp'⟩) : OpOk X o s Kn := by
  refine OpOk.of_run r hp' (by simp [ho]) (fun M B a w hst hho htm => ?_) hK
  obtain ⟨cz, e1, e2, e3, e4⟩ := run_zero (k := mkK w M B s.hp s.ck) hz w
  unfold boxR at h
  split at h
  · rename_i d cs hd hcs
    split at h
    · rename_i hfree
      simp only [Option.some.injEq, Prod.mk.injEq] at h
      obtain ⟨rfl, rfl⟩ := h
      obtain ⟨h1, h2⟩ := cellsV_R e2 hcs
      obtain ⟨q1, q2, q3⟩ := new_cells hho (l := (s.ck, d)) hfree rfl t h1 h2
      exact ⟨_, _, _, _, by simp [execOp, ho, Instr.alloc, e1, newVar, newRow], q1, q2, q3⟩
    · cases h
  · cases h

def rep : Nat → List V → List V
  | 0, _ => []
  | n + 1, z => z ++ rep n z

theorem rep_length : ∀ (n : Nat) (z : List V), (rep n z).length = n * z.length
  | 0, z => by simp [rep]
  | n + 1, z => by rw [rep, List.length_append, rep_length n z, Nat.add_mul]; omega

theorem rep_get : ∀ (n : Nat) (z : List V) (j : Nat), j < n * z.length → (rep n z)[j]? = z[j % z.length]?
  | 0, z, j, h => by simp at h
  | n + 1, z, j, h => by
    rw [rep]
    by_cases hj : j < z.length
    · rw [List.getElem?_append_left hj, Nat.mod_eq_of_lt hj]
    · have hj' : z.length ≤ j := by omega
      rw [List.getElem?_append_right hj', rep_get n z (j - z.length) (by rw [Nat.add_mul] at h; omega)]
      rw [← Nat.mod_eq_sub_mod hj']

theorem new_arr {w : World} {M : Nat → Prop} {B : Loc → Option (Nat × Nat)} {hp : Heap} {ck : Nat} (hk : HeapOk (mkK w M B hp ck)) {l : Loc} (hl : hp l = none) (hck : l.1 = ck)
    {n sz c : Nat} {get : Nat → List V} {xs : Array Value} (ty : TypeId) (hn : n ≤ c) (hs : xs.size = c * sz) (hlen : ∀ i, i < n → (get i).length = sz)
    (hr : ∀ (i j : Nat) (v : V), i < n → (get i)[j]? = some v → R (mkK w M B hp ck) v (xs.getD (i * sz + j) undef)) :
    let k' := mkK (w.alloc (.cells xs ty)) (fun b => M b ∨ b = w.heap.size) (updB B l (some (w.heap.size, c))) (updH hp l (.arr n sz get)) ck
    Step (mkK w M B hp ck) k' ∧ HeapOk k' ∧ R k' (.msl l 0 n) (.slice (some ⟨w.heap.size, 0, none⟩) n c) := by
  intro k'
  have h := alloc_ok hk hl hck xs ty c (.arr n sz get) (fun k2 hB hh st => by
    refine ⟨hlen, trivial, ?_⟩
    rw [hB]
    exact ⟨hn, xs, ty, (0, 0), hh, fun o => by simp, hs, fun i j v hi hv => (hr i j v hi hv).step st fun b hb => (hk.own b hb).1⟩)
  refine ⟨h.1, h.2, .msl _ _ _ _ rfl (.inr ⟨hck, by show (updH hp l _ l).isSome = true; rw [updH_same]; rfl⟩) fun n' sz' get' hg => ?_⟩
  have hg' : updH hp l (.arr n sz get) l = some (.arr n' sz' get') := hg
  rw [updH_same] at hg'
  cases hg'
  refine ⟨by omega, fun _ => ?_⟩
  show _ = mslVal (updB B l _ l) 0 sz n
  rw [updB_same]
  simp [mslVal]

def buildSliceR (P : Program) (s : St) (dst : Option Tmp) (t : TypeId) (len : Nat) (parts : List (Nat × V)) : Option (Prop × V × Heap) :=
  match P.underlying t, dst with
  | some (.slice e), some d =>
    match (tzero P e).bind cellsV with
    | some z => if len * tsz P e ≤ 2 ^ 24 ∧ (tagg P e).isSome = true ∧ z.length = tsz P e then
        match fillV (fun i => some (i * tsz P e, tsz P e)) (rep len z) parts, s.hp (s.ck, d) with
        | some cells, none => some (∀ v ∈ cells, Pu v, .msl (s.ck, d) 0 len, updH s.hp (s.ck, d) (.arr len (tsz P e) (rowAt cells (tsz P e))))
        | _, _ => none
      else none
    | none => none
  | _, _ => none

/-- The same, of parts that may be slices of the call's own. -/
def buildSliceN (P : Program) (s : St) (dst : Option Tmp) (t : TypeId) (len : Nat) (parts : List (Nat × V)) : Option (Prop × V × Heap) :=
  match P.underlying t, dst with
  | some (.slice e), some d =>
    match (tzero P e).bind cellsV with
    | some z => if len * tsz P e ≤ 2 ^ 24 ∧ (tagg P e).isSome = true ∧ z.length = tsz P e then
        match fillV (fun i => some (i * tsz P e, tsz P e)) (rep len z) parts, s.hp (s.ck, d) with
        | some cells, none => some (∀ v ∈ cells, Pu v ∨ isMsl v = true, .msl (s.ck, d) 0 len, updH s.hp (s.ck, d) (.arr len (tsz P e) (rowAt cells (tsz P e))))
        | _, _ => none
      else none
    | none => none
  | _, _ => none

theorem buildSliceN_of {P : Program} {s : St} {dst : Option Tmp} {t : TypeId} {len : Nat} {parts : List (Nat × V)} {p : Prop} {v : V} {h : Heap} (e : buildSliceR P s dst t len parts = some (p, v, h)) :
    ∃ p', buildSliceN P s dst t len parts = some (p', v, h) ∧ (p → p') := by
  unfold buildSliceR at e
  split at e
  · rename_i el d h1
    split at e
    · rename_i z hz
      split at e
      · rename_i hc
        split at e
        · rename_i cells g1 g2
          simp only [Option.some.injEq, Prod.mk.injEq] at e
          obtain ⟨rfl, rfl, rfl⟩ := e
          refine ⟨∀ v ∈ cells, Pu v ∨ isMsl v = true, ?_, fun q v hv => .inl (q v hv)⟩
          unfold buildSliceN
          simp only [h1, hz, if_pos hc, g1, g2]
        · cases e
      · cases e
    · cases e
  · cases e
/-- What a literal of plain parts holds. -/
theorem buildSliceR_pu {P : Program} {s : St} {d : Tmp} {t : TypeId} {len : Nat} {parts : List (Nat × V)} {p : Prop} {v : V} {h : Heap} {n sz : Nat} {get : Nat → List V} (e : buildSliceR P s (some d) t len parts = some (p, v, h)) (hp : p)
    (hl : h (s.ck, d) = some (.arr n sz get)) : ∀ (i j : Nat) (v : V), i < n → (get i)[j]? = some v → Pu v := by
  unfold buildSliceR at e
  split at e
  · rename_i el d' h1 h2
    obtain rfl : d = d' := by simpa using h2
    split at e
    · rename_i z hz
      split at e
      · rename_i hc
        split at e
        · rename_i cells g1 g2
          simp only [Option.some.injEq, Prod.mk.injEq] at e
          obtain ⟨rfl, rfl, rfl⟩ := e
          rw [updH_same] at hl
          cases hl
          exact fun i j v _ hv => hp v (mem_of_get (rowAt_get hv))
        · cases e
      · cases e
    · cases e
  · cases e

theorem getBang {xs : Array Value} {i : Nat} (h : i < xs.size) : xs[i]! = xs.getD i undef := by
  simp [Array.getD_eq_getD_getElem?, h]

theorem fillV_length (place : Nat → Option (Nat × Nat)) : ∀ (parts : List (Nat × V)) (cells r : List V), fillV place cells parts = some r → r.length = cells.length
  | [], cells, r, h => by simp only [fillV, Option.some.injEq] at h; rw [h]
  | (i, v) :: parts, cells, r, h => by
    unfold fillV at h
    split at h
    · split at h
      · rw [fillV_length place parts _ r h, setAt_length]
      · cases h
    · cases h

theorem buildSlice_ok {X : Cx} (hX : X.Ok) {o : Oper} {t : TypeId} {len : Nat} {parts : Array (Nat × Operand)} {s : St} {Kn : St → Prop} (ho : o.op = .buildSlice t len parts) {pre : Prop} {r : V} {hp' : Heap}
    (h : buildSliceN X.P s o.dst t len (parts.toList.map fun x => (x.1, ev X s x.2)) = some (pre, r, hp')) (hpre : pre)
    (hK : Kn ⟨s.ck, putTm s.tm o.dst r, hp'⟩) : OpOk X o s Kn := by
  refine OpOk.of_run r hp' (by simp [ho]) (fun M B a w hst hho htm => ?_) hK
  have hev : ∀ y, R (mkK w M B s.hp s.ck) (ev X s y) (a.eval y) := fun y => ev_R hX (ds := a.defers) hst htm y
  obtain ⟨hp1, hp2⟩ := parts_R hev parts
  unfold buildSliceN at h
  split at h
  · rename_i e d hu hd
    split at h
    · rename_i z hz
      cases hz0 : tzero X.P e with
      | none => simp [hz0] at hz
      | some z0 =>
        simp only [hz0, Option.bind_some] at hz
        split at h
        · rename_i hc
          obtain ⟨hc1, hc2, hc3⟩ := hc
          obtain ⟨b, hb⟩ := Option.isSome_iff_exists.1 hc2
          split at h
          · rename_i cells hcells hfree
            simp only [Option.some.injEq, Prod.mk.injEq] at h
            obtain ⟨rfl, rfl, rfl⟩ := h
            obtain ⟨cz, e1, e2, e3, e4⟩ := run_zero (k := mkK w M B s.hp s.ck) hz0 w
            obtain ⟨h1, h2⟩ := cellsV_R e2 hz
            have hzsz : cz.cells.size = tsz X.P e := by omega
            let zs : Array Value := (Array.range (len * tsz X.P e)).map (fun i => (if len * tsz X.P e = 0 then #[] else cz.cells)[i % (if len * tsz X.P e = 0 then #[] else cz.cells).size]!)
            have hzs : zs.size = (rep len z).length := by simp [zs, rep_length, hc3]
            have hzr : ∀ (j : Nat) (v : V), (rep len z)[j]? = some v → R (mkK w M B s.hp s.ck) v (zs.getD j undef) := by
              intro j v hv
              have hj : j < len * z.length := by
                have := (List.getElem?_eq_some_iff.1 hv).1
                rwa [rep_length] at this
              rw [rep_get len z j hj] at hv
              have hne : len * tsz X.P e ≠ 0 := by rw [← hc3]; omega
              have hpos : 0 < tsz X.P e := by
                rcases Nat.eq_zero_or_pos (tsz X.P e) with q | q
                · rw [q] at hne; simp at hne
                · exact q
              have := h2 _ v hv
              have hzj : zs.getD j undef = cz.cells.getD (j % z.length) undef := by
                simp only [zs, if_neg hne, Array.getD_eq_getD_getElem?, Array.getElem?_map, Array.getElem?_range]
                rw [if_pos (by rw [← hc3]; exact hj)]
                simp only [Option.map_some, Option.getD_some]
                rw [getBang (by rw [hzsz]; exact Nat.mod_lt _ hpos), Array.getD_eq_getD_getElem?, hzsz, hc3]
              rw [hzj]; exact this
            obtain ⟨cr, f1, f2, f3⟩ := fill_ok _ _ _ _ zs cells hp1 hp2 hzs hzr hcells
            have hcl : cells.length = len * tsz X.P e := by rw [fillV_length _ _ _ _ hcells, rep_length, hc3]
            obtain ⟨q1, q2, q3⟩ := new_arr hho (l := (s.ck, d)) hfree rfl (n := len) (sz := tsz X.P e) (c := len) (get := rowAt cells (tsz X.P e)) (xs := cr) e (Nat.le_refl _) (by rw [f2, hcl])
              (fun i hi => by
                have : (i + 1) * tsz X.P e ≤ len * tsz X.P e := Nat.mul_le_mul_right _ (by omega)
                rw [Nat.add_mul] at this
                simp only [rowAt, List.length_take, List.length_drop, hcl]; omega)
              (fun i j v hi hv => f3 _ v (rowAt_get hv))
            refine ⟨_, _, _, _, ?_, q1, q2, q3⟩
            have hnot : ¬ len * tsz X.P e > 2 ^ 24 := by omega
            simp only [zs] at f1
            by_cases hq : len * tsz X.P e = 0
            · simp only [if_pos hq] at f1
              simp only [execOp, ho, Instr.buildSlice, Sem.run_bind, run_underlying hu, Result.andThen_ok, run_sizeOf' hb, if_neg hnot, if_pos hq, Sem.run_pure, Sem.run_ite, f1]
              simp [newRow]
            · simp only [if_neg hq] at f1
              simp only [execOp, ho, Instr.buildSlice, Sem.run_bind, run_underlying hu, Result.andThen_ok, run_sizeOf' hb, if_neg hnot, if_neg hq, e1, Sem.run_pure, Sem.run_ite, f1]
              simp [newRow]
          · cases h
        · cases h
    · cases h
  · cases h
end Go.Fly
end
section
/- Stores; make; append and copy. -/
namespace Go.Fly
open Go

theorem store_op_ok {X : Cx} (hX : X.Ok) {o : Oper} {t : TypeId} {x y : Operand} {s : St} {Kn : St → Prop} (ho : o.op = .store t x y) {pre : Prop} {hp' : Heap}
    (h : sto X.P s.hp t (ev X s x) (ev X s y) = some (pre, hp')) (hpre : pre) (hK : Kn ⟨s.ck, putTm s.tm o.dst .top, hp'⟩) : OpOk X o s Kn := by
  refine OpOk.of_skip hp' (by simp [ho]) (fun M B a w hst hho htm => ?_) hK
  have hev : ∀ y, R (mkK w M B s.hp s.ck) (ev X s y) (a.eval y) := fun y => ev_R hX (ds := a.defers) hst htm y
  obtain ⟨xa, w', h1, h2, h3, h4⟩ := sto_ok (P := X.P) hho (hev x) (hev y) h hpre
  exact ⟨w', M, B, by simp [execOp, ho, Instr.storeAt, Instr.sureAddr, h1, h2], h3, h4⟩

def tby (P : Program) (t : TypeId) : Nat := ((P.info? t).map (·.bytes)).getD 0

def makeSliceR (P : Program) (s : St) (dst : Option Tmp) (t : TypeId) (len cap : V) : Option (Prop × V × Heap) :=
  match P.underlying t, dst, len, cap with
  | some (.slice e), some d, .int .i64 n, .int .i64 c =>
    match (tzero P e).bind cellsV, s.hp (s.ck, d) with
    | some z, none => if (tagg P e).isSome = true ∧ z.length = tsz P e ∧ z.length ≠ 0 then
        some (0 ≤ n ∧ n ≤ c ∧ c ≤ 140737488355328 ∧ c * tby P e ≤ 140737488355328 ∧ ∀ v ∈ z, Pu v, .msl (s.ck, d) 0 n.toNat, updH s.hp (s.ck, d) (.arr n.toNat (tsz P e) (fun _ => z)))
      else none
    | _, _ => none
  | _, _, _, _ => none

theorem makeSlice_ok {X : Cx} (hX : X.Ok) {o : Oper} {t : TypeId} {len cap : Operand} {s : St} {Kn : St → Prop} (ho : o.op = .makeSlice t len cap) {pre : Prop} {r : V} {hp' : Heap}
    (h : makeSliceR X.P s o.dst t (ev X s len) (ev X s cap) = some (pre, r, hp')) (hpre : pre) (hK : Kn ⟨s.ck, putTm s.tm o.dst r, hp'⟩) : OpOk X o s Kn := by
  refine OpOk.of_run r hp' (by simp [ho]) (fun M B a w hst hho htm => ?_) hK
  have hev : ∀ y, R (mkK w M B s.hp s.ck) (ev X s y) (a.eval y) := fun y => ev_R hX (ds := a.defers) hst htm y
  have hl := hev len
  have hc := hev cap
  unfold makeSliceR at h
  split at h
  · rename_i e d n c hu hd hn hcc
    rw [hn] at hl
    rw [hcc] at hc
    split at h
    · rename_i z hz hfree
      cases hz0 : tzero X.P e with
      | none => simp [hz0] at hz
      | some z0 =>
        simp only [hz0, Option.bind_some] at hz
        split at h
        · rename_i hcond
          obtain ⟨hg, hzl, hz1⟩ := hcond
          obtain ⟨b, hb⟩ := Option.isSome_iff_exists.1 hg
          simp only [Option.some.injEq, Prod.mk.injEq] at h
          obtain ⟨rfl, rfl, rfl⟩ := h
          obtain ⟨p1, p2, p3, p4, p5⟩ := hpre
          obtain ⟨cz, e1, e2, e3, e4⟩ := run_zero (k := mkK w M B s.hp s.ck) hz0 w
          obtain ⟨h1, h2⟩ := cellsV_R e2 hz
          obtain ⟨i, hi⟩ : ∃ i, X.P.info? e = some i := by
            unfold tagg at hb
            cases q : X.P.underlying e with
            | none => simp [q] at hb
            | some dd => exact info_of_underlying q
          have hby : tby X.P e = i.bytes := by simp [tby, hi]
          rw [hby] at p4
          have wn : IntKind.i64.wrap n = n := wrap_in ((inK_i64 n).2 ⟨by omega, by omega⟩)
          have wc : IntKind.i64.wrap c = c := wrap_in ((inK_i64 c).2 ⟨by omega, by omega⟩)
          have hpos : 0 < tsz X.P e := by omega
          let zs : Array Value := (Array.range (c.toNat * tsz X.P e)).map (fun i => (if c.toNat * tsz X.P e = 0 then #[] else cz.cells)[i % (if c.toNat * tsz X.P e = 0 then #[] else cz.cells).size]!)
          have hzs : zs.size = c.toNat * tsz X.P e := by simp [zs]
          have hzsz : cz.cells.size = tsz X.P e := by omega
          obtain ⟨q1, q2, q3⟩ := new_arr hho (l := (s.ck, d)) hfree rfl (n := n.toNat) (sz := tsz X.P e) (c := c.toNat) (get := fun _ => z) (xs := zs) e (by omega) hzs (fun _ _ => hzl)
            (fun i j v hi hv => by
              have hj : j < tsz X.P e := by have := (List.getElem?_eq_some_iff.1 hv).1; omega
              have hlt : i * tsz X.P e + j < c.toNat * tsz X.P e := by
                have : (i + 1) * tsz X.P e ≤ c.toNat * tsz X.P e := Nat.mul_le_mul_right _ (by omega)
                rw [Nat.add_mul] at this; omega
              have hne : c.toNat * tsz X.P e ≠ 0 := by omega
              have hzj : zs.getD (i * tsz X.P e + j) undef = cz.cells.getD j undef := by
                simp only [zs, if_neg hne, Array.getD_eq_getD_getElem?, Array.getElem?_map, Array.getElem?_range]
                rw [if_pos hlt]
                simp only [Option.map_some, Option.getD_some]
                have hmod : (i * tsz X.P e + j) % cz.cells.size = j := by
                  rw [hzsz, Nat.mul_comm, Nat.mul_add_mod, Nat.mod_eq_of_lt hj]
                rw [hmod, getBang (by omega), Array.getD_eq_getD_getElem?]
              rw [hzj]; exact h2 j v hv)
          refine ⟨_, _, _, _, ?_, q1, q2, q3⟩
          have hbig : decide ((i.bytes : Int) * c > 2 ^ 48) = false := by
            rw [decide_eq_false_iff_not, Int.mul_comm]
            have : (2 : Int) ^ 48 = 281474976710656 := by decide
            omega
          have c1 : decide (c < 0) = false := by simp; omega
          have c2 : decide (n < 0) = false := by simp; omega
          have c3 : decide (n > c) = false := by simp; omega
          by_cases hq : c.toNat * tsz X.P e = 0
          · simp only [execOp, ho, Instr.makeSlice, Sem.run_bind, run_underlying hu, Result.andThen_ok, hl.int_inv, hc.int_inv, asInt, asIntOf, Sem.run_pure, typeInfo, run_program, hi, wn, wc, c1, c2, c3, hbig, Bool.false_or, Bool.or_false, Bool.false_eq_true, if_false, run_askRoom, run_sizeOf' hb, if_pos hq, Sem.run_ite]
            simp [newRow, zs, hq]
          · simp only [execOp, ho, Instr.makeSlice, Sem.run_bind, run_underlying hu, Result.andThen_ok, hl.int_inv, hc.int_inv, asInt, asIntOf, Sem.run_pure, typeInfo, run_program, hi, wn, wc, c1, c2, c3, hbig, Bool.false_or, Bool.or_false, Bool.false_eq_true, if_false, run_askRoom, run_sizeOf' hb, if_neg hq, e1, Sem.run_ite]
            simp [newRow, zs, hq]
        · cases h
    · cases h
  · cases h

/-! ### What append and copy read -/

/-- The elements of a slice, or the bytes of a string: how many, and the cells of each. -/
def srcV (hp : Heap) (x : V) : Option (Prop × Nat × (Nat → List V) × Option Nat) :=
  match x with
  | .nils => some (True, 0, fun _ => [], none)
  | .sl n sz get => some (True, n, get, some sz)
  | .str s => some (True, s.length, fun i => [.int .u8 (s.getD i 0).toNat], some 1)
  | .msl l off len => match hp l with
    | some (.arr n sz get) => some (off + len = n, len, fun i => get (off + i), some sz)
    | _ => none
  | _ => none

theorem src_ok {P : Program} {k : K} (hk : HeapOk k) {x : V} {cx : Value} (hx : R k x cx) {pre : Prop} {n sz : Nat} {get : Nat → List V} {osz : Option Nat} (h : srcV k.hp x = some (pre, n, get, osz)) (hp : pre)
    (hsz : n = 0 ∨ osz = some sz) {m : Nat} (hm : m ≤ n) :
    (Builtin.lenOf cx).run P k.w = .ok n k.w ∧ ∃ ys : Array Value, (∀ w' : World, w'.heap = k.w.heap → (Builtin.firstCells sz m cx).run P w' = .ok ys w') ∧ ys.size = m * sz ∧
      (∀ i, i < m → (get i).length = sz) ∧ ∀ (i j : Nat) (v : V), i < m → (get i)[j]? = some v → j < sz ∧ R k v (ys.getD (i * sz + j) undef) := by
  have hld : ∀ (b off cap : Nat) (xx : Nat → Nat → Value), m ≤ n → (∀ i j, i < n → j < sz → k.w.cell? ⟨b, off + i * sz + j, none⟩ = some (xx i j)) → (∀ i, i < n → (get i).length = sz) →
      (∀ (i j : Nat) (v : V), i < n → (get i)[j]? = some v → R k v (xx i j)) →
      ∃ ys : Array Value, (∀ w' : World, w'.heap = k.w.heap → (Builtin.firstCells sz m (.slice (some ⟨b, off, none⟩) n cap)).run P w' = .ok ys w') ∧ ys.size = m * sz ∧
      (∀ i, i < m → (get i).length = sz) ∧ ∀ (i j : Nat) (v : V), i < m → (get i)[j]? = some v → j < sz ∧ R k v (ys.getD (i * sz + j) undef) := by
    intro b off cap xx hmn hc hl hr
    refine ⟨((List.range (m * sz)).map fun q => xx (q / sz) (q % sz)).toArray, fun w' hw => ?_, by simp, fun i hi => hl i (by omega), fun i j v hi hv => ?_⟩
    · have := run_loadCells (P := P) w' ⟨b, off, none⟩ (m * sz) (fun q => xx (q / sz) (q % sz)) (fun q hq => by
        have hpos : 0 < sz := by
          rcases Nat.eq_zero_or_pos sz with z | z
          · rw [z] at hq; simp at hq
          · exact z
        have hdiv : q / sz < m := by rw [Nat.div_lt_iff_lt_mul hpos]; exact hq
        have := hc (q / sz) (q % sz) (by omega) (Nat.mod_lt _ hpos)
        rw [addr_add]
        have e : off + q / sz * sz + q % sz = off + q := by
          have := Nat.div_add_mod q sz
          rw [Nat.mul_comm] at this
          omega
        rw [e] at this
        rw [World.cell_eq_of_heap (w := k.w) (w' := w') (by rw [hw])]
        exact this)
      simpa [Builtin.firstCells] using this
    · have hj : j < sz := by have := (List.getElem?_eq_some_iff.1 hv).1; rw [hl i (by omega)] at this; exact this
      refine ⟨hj, ?_⟩
      have hlt : i * sz + j < m * sz := by
        have : (i + 1) * sz ≤ m * sz := Nat.mul_le_mul_right _ (by omega)
        rw [Nat.add_mul] at this; omega
      have e1 : (i * sz + j) / sz = i := by
        rw [Nat.mul_comm, Nat.mul_add_div (by omega), Nat.div_eq_of_lt hj]; omega
      have e2 : (i * sz + j) % sz = j := by rw [Nat.mul_comm, Nat.mul_add_mod, Nat.mod_eq_of_lt hj]
      simp only [Array.getD_eq_getD_getElem?, List.getElem?_toArray, List.getElem?_map, List.getElem?_range hlt, Option.map_some, Option.getD_some, e1, e2]
      exact hr i j v (by omega) hv
  unfold srcV at h
  split at h
  · simp only [Option.some.injEq, Prod.mk.injEq] at h
    obtain ⟨rfl, rfl, rfl, rfl⟩ := h
    rw [hx.nils_inv]
    obtain rfl : m = 0 := by omega
    exact ⟨by simp [Builtin.lenOf], #[], fun w' _ => by simp [Builtin.firstCells], by simp, fun i hi => by omega, fun i j v hi => by omega⟩
  · rename_i n' sz' get'
    simp only [Option.some.injEq, Prod.mk.injEq] at h
    obtain ⟨rfl, rfl, rfl, rfl⟩ := h
    cases hx with
    | sl0 _ _ oa cap =>
      obtain rfl : m = 0 := by omega
      refine ⟨by simp [Builtin.lenOf], #[], fun w' _ => ?_, by simp, fun i hi => by omega, fun i j v hi => by omega⟩
      cases oa <;> simp [Builtin.firstCells, loadCells, loadCellsFrom]
    | sl _ _ _ b off cap xx hM hb hcap hpu hl hc hr =>
      refine ⟨by simp [Builtin.lenOf], ?_⟩
      by_cases hn0 : n' = 0
      · obtain rfl : m = 0 := by omega
        exact ⟨#[], fun w' _ => by simp [Builtin.firstCells, loadCells, loadCellsFrom], by simp, fun i hi => by omega, fun i j v hi => by omega⟩
      · have : sz' = sz := by rcases hsz with q | q <;> simp_all
        subst this
        exact hld b off cap xx hm hc hl hr
  · rename_i s
    simp only [Option.some.injEq, Prod.mk.injEq] at h
    obtain ⟨rfl, rfl, rfl, rfl⟩ := h
    rw [hx.str_inv]
    have hz : (⟨s.toArray⟩ : ByteArray).size = s.length := by simp [ByteArray.size]
    refine ⟨by simp [Builtin.lenOf, hz], ((s.take m).map fun b => Value.int .u8 b.toNat).toArray, fun w' _ => ?_, ?_, fun i hi => ?_, fun i j v hi hv => ?_⟩
    · have hex : ((⟨s.toArray⟩ : ByteArray).extract 0 m).data = (s.take m).toArray := by
        rw [ByteArray.data_extract]; simp
      simp [Builtin.firstCells, hex]
    · rcases hsz with q | q
      · simp_all
      · cases q
        simp; omega
    · rcases hsz with q | q
      · omega
      · cases q; rfl
    · have : sz = 1 := by rcases hsz with q | q <;> simp_all
      subst this
      cases j with
      | zero =>
        simp only [List.getElem?_cons_zero, Option.some.injEq] at hv
        subst hv
        refine ⟨by omega, ?_⟩
        have h1 : s[i]? = some s[i] := List.getElem?_eq_getElem (by omega)
        have : ((s.take m).map fun b => Value.int .u8 b.toNat).toArray.getD (i * 1 + 0) undef = .int .u8 (s.getD i 0).toNat := by
          simp [Array.getD_eq_getD_getElem?, List.getElem?_take_of_lt hi, h1, List.getD_eq_getElem?_getD]
        rw [this]; exact .int _ _
      | succ j => simp at hv
  · rename_i l off len
    cases ho : k.hp l with
    | none => simp [ho] at h
    | some ob =>
      cases ob with
      | cells cs => simp [ho] at h
      | dead => simp [ho] at h
      | raw r => simp [ho] at h
      | arr n' sz' get' =>
        simp only [ho, Option.some.injEq, Prod.mk.injEq] at h
        obtain ⟨rfl, rfl, rfl, rfl⟩ := h
        obtain ⟨g1, g2, g3⟩ := hk.obj l _ ho
        cases hx with
        | msl _ _ _ _ h1c hn hh =>
          obtain ⟨q1, q2⟩ := hh _ _ _ ho
          have hcx := q2 hp
          cases hB : k.B l with
          | none =>
            simp only [hB] at g3
            simp only [hB, mslVal] at hcx
            subst hcx
            obtain rfl : len = 0 := by omega
            obtain rfl : m = 0 := by omega
            exact ⟨by simp [Builtin.lenOf], #[], fun w' _ => by simp [Builtin.firstCells], by simp, fun i hi => by omega, fun i j v hi => by omega⟩
          | some bc =>
            obtain ⟨b, c⟩ := bc
            simp only [hB] at g3
            obtain ⟨hnc, xs, ty, fz, hh2, hz, hs, hr⟩ := g3
            simp only [hB, mslVal] at hcx
            subst hcx
            refine ⟨by simp [Builtin.lenOf], ?_⟩
            by_cases hn0 : len = 0
            · obtain rfl : m = 0 := by omega
              exact ⟨#[], fun w' _ => by simp [Builtin.firstCells, loadCells, loadCellsFrom], by simp, fun i hi => by omega, fun i j v hi => by omega⟩
            · have : sz' = sz := by rcases hsz with q | q <;> simp_all
              subst this
              refine hld b (off * sz') (c - off) (fun i j => xs.getD ((off + i) * sz' + j) undef) hm (fun i j hi hj => ?_) (fun i hi => g1 _ (by omega)) (fun i j v hi hv => hr _ j v (by omega) hv)
              rw [show off * sz' + i * sz' + j = (off + i) * sz' + j by rw [Nat.add_mul]]
              refine cell_of_cells hh2 ?_
              rw [hs]
              have : (off + i + 1) * sz' ≤ c * sz' := Nat.mul_le_mul_right _ (by omega)
              rw [Nat.add_mul (off + i)] at this
              omega
  · cases h
end Go.Fly
end
section
/- append. -/
namespace Go.Fly
open Go

theorem drew_ok {w : World} {M : Nat → Prop} {B : Loc → Option (Nat × Nat)} {hp : Heap} {ck : Nat} (hk : HeapOk (mkK w M B hp ck)) :
    Step (mkK w M B hp ck) (mkK w.drew M B hp ck) ∧ HeapOk (mkK w.drew M B hp ck) := by
  have st : Step (mkK w M B hp ck) (mkK w.drew M B hp ck) :=
    ⟨rfl, rfl, rfl, Nat.le_refl _, fun _ _ _ => rfl, fun _ h => .inl h, fun _ _ h => h, fun _ _ _ h => h, fun _ h => h, fun l hl o' ho' => (Step.refl (mkK w M B hp ck)).names l hl o' ho'⟩
  exact ⟨st, hk.lt, hk.own, hk.nm, hk.inj, fun l o h => ObjOk.step st hk h h rfl fun _ _ _ => rfl⟩

/-- An array without a block: a nil slice that is appended to. -/
theorem new_nil {w : World} {M : Nat → Prop} {B : Loc → Option (Nat × Nat)} {hp : Heap} {ck : Nat} (hk : HeapOk (mkK w M B hp ck)) {l : Loc} (hl : hp l = none) (hck : l.1 = ck) (sz : Nat) (get : Nat → List V) :
    let k' := mkK w M (updB B l none) (updH hp l (.arr 0 sz get)) ck
    Step (mkK w M B hp ck) k' ∧ HeapOk k' ∧ R k' (.msl l 0 0) (.slice none 0 0) := by
  intro k'
  have hnm : ¬ (mkK w M B hp ck).nm l := by
    intro h; rcases h with h | ⟨_, h⟩
    · omega
    · simp [hl] at h
  have hold : ∀ l' : Loc, l' ≠ l → k'.hp l' = hp l' ∧ k'.B l' = B l' := fun l' h => ⟨updH_ne h, updB_ne h⟩
  have hown : ∀ b, k'.owned b → (mkK w M B hp ck).owned b := by
    rintro b ⟨l', o', c', h1, h2⟩
    by_cases e : l' = l
    · subst e
      have : updB B l' none l' = some (b, c') := h2
      rw [updB_same] at this
      cases this
    · rw [(hold l' e).1] at h1; rw [(hold l' e).2] at h2
      exact ⟨l', o', c', h1, h2⟩
  have st : Step (mkK w M B hp ck) k' := by
    refine ⟨rfl, rfl, rfl, Nat.le_refl _, fun _ _ _ => rfl, fun b h => .inl (hown b h), fun _ _ h => h, fun _ _ _ h => h, fun l' h => nm_upd h, fun l' hl' o' ho' => ?_⟩
    have e : l' ≠ l := fun e => hnm (e ▸ hl')
    rw [(hold l' e).1] at ho'
    have q := (Step.refl (mkK w M B hp ck)).names l' hl' o' ho'
    cases o' with
    | dead => trivial
    | raw r => trivial
    | cells cs => exact ⟨q.1, (hold l' e).2⟩
    | arr n sz get => obtain ⟨n0, g0, q1, q2, q3⟩ := q; exact ⟨n0, g0, q1, q2, fun _ => (hold l' e).2⟩
  refine ⟨st, ⟨hk.lt, fun b hb => hk.own b (hown b hb), fun l' o' h1 => ?_, fun l1 l2 b c c' o1 o2 h1 h2 h3 h4 => ?_, fun l' o' h1 => ?_⟩, .msl _ _ _ _ rfl (.inr ⟨hck, by show (updH hp l _ l).isSome = true; rw [updH_same]; rfl⟩) fun n' sz' get' hg => ?_⟩
  · by_cases e : l' = l
    · subst e; exact .inr ⟨hck, by show (updH hp l' _ l').isSome = true; rw [updH_same]; rfl⟩
    · rw [(hold l' e).1] at h1; exact nm_upd (hk.nm l' o' h1)
  · have e1 : l1 ≠ l := by
      intro e; subst e
      have : updB B l1 none l1 = some (b, c) := h3
      rw [updB_same] at this; cases this
    have e2 : l2 ≠ l := by
      intro e; subst e
      have : updB B l2 none l2 = some (b, c') := h4
      rw [updB_same] at this; cases this
    rw [(hold l1 e1).1] at h1; rw [(hold l1 e1).2] at h3
    rw [(hold l2 e2).1] at h2; rw [(hold l2 e2).2] at h4
    exact hk.inj l1 l2 b c c' o1 o2 h1 h2 h3 h4
  · by_cases e : l' = l
    · subst e
      have q : updH hp l' _ l' = some o' := h1
      rw [updH_same] at q
      cases q
      refine ⟨fun i hi => by omega, trivial, ?_⟩
      have : k'.B l' = none := updB_same _ _ _
      rw [this]
    · have h3 := hold l' e
      rw [h3.1] at h1
      exact ObjOk.step st hk h1 (h3.1.trans h1) h3.2 fun _ _ _ => rfl
  · have hg' : updH hp l _ l = some (.arr n' sz' get') := hg
    rw [updH_same] at hg'
    cases hg'
    refine ⟨by omega, fun _ => ?_⟩
    show _ = mslVal (updB B l none l) 0 sz 0
    rw [updB_same]; rfl

/-- An array of the call's own moves into a new block, longer than before. -/
theorem grow_ok {w : World} {M : Nat → Prop} {B : Loc → Option (Nat × Nat)} {hp : Heap} {ck : Nat} (hk : HeapOk (mkK w M B hp ck)) {l : Loc} {n sz : Nat} {get : Nat → List V} (hl : hp l = some (.arr n sz get))
    {n' c : Nat} {get' : Nat → List V} {xs : Array Value} (ty : TypeId) (hlt : n < n') (hn : n' ≤ c) (hs : xs.size = c * sz) (hlen : ∀ i, i < n' → (get' i).length = sz)
    (hr : ∀ (i j : Nat) (v : V), i < n' → (get' i)[j]? = some v → R (mkK w M B hp ck) v (xs.getD (i * sz + j) undef)) :
    let k' := mkK (w.alloc (.cells xs ty)) (fun b => M b ∨ b = w.heap.size) (updB B l (some (w.heap.size, c))) (updH hp l (.arr n' sz get')) ck
    Step (mkK w M B hp ck) k' ∧ HeapOk k' ∧ R k' (.msl l 0 n') (.slice (some ⟨w.heap.size, 0, none⟩) n' c) := by
  intro k'
  have hsz : (w.alloc (.cells xs ty)).heap.size = w.heap.size + 1 := World.size_alloc w _
  have hold : ∀ l' : Loc, l' ≠ l → k'.hp l' = hp l' ∧ k'.B l' = B l' := fun l' h => ⟨updH_ne h, updB_ne h⟩
  have hBl : k'.B l = some (w.heap.size, c) := updB_same _ _ _
  have hHl : k'.hp l = some (.arr n' sz get') := updH_same _ _ _
  have hown : ∀ b, k'.owned b → (mkK w M B hp ck).owned b ∨ b = w.heap.size := by
    rintro b ⟨l', o', c', h1, h2⟩
    by_cases e : l' = l
    · subst e
      rw [hBl] at h2
      simp only [Option.some.injEq, Prod.mk.injEq] at h2
      exact .inr h2.1.symm
    · rw [(hold l' e).1] at h1; rw [(hold l' e).2] at h2
      exact .inl ⟨l', o', c', h1, h2⟩
  have st : Step (mkK w M B hp ck) k' := by
    refine ⟨rfl, rfl, rfl, by show w.heap.size ≤ (w.alloc _).heap.size; omega, fun b hb _ => heap_push_lt hb, fun b h => (hown b h).imp id (fun e => by show w.heap.size ≤ b; omega), fun b hb hM => ?_, fun b _ _ h => .inl h, fun l' h => nm_upd h, fun l' hl' o' ho' => ?_⟩
    · rcases hM with h | h
      · exact h
      · have : b < w.heap.size := hb
        omega
    · by_cases e : l' = l
      · subst e
        rw [hHl] at ho'
        cases ho'
        exact ⟨n, get, hl, by omega, fun e => by omega⟩
      · rw [(hold l' e).1] at ho'
        have q := (Step.refl (mkK w M B hp ck)).names l' hl' o' ho'
        cases o' with
        | dead => trivial
        | raw r => trivial
        | cells cs => exact ⟨q.1, (hold l' e).2⟩
        | arr n sz get => obtain ⟨n0, g0, q1, q2, q3⟩ := q; exact ⟨n0, g0, q1, q2, fun _ => (hold l' e).2⟩
  refine ⟨st, ⟨fun b hb => ?_, fun b hb => ?_, fun l' o' h1 => ?_, fun l1 l2 b c1 c2 o1 o2 h1 h2 h3 h4 => ?_, fun l' o' h1 => ?_⟩, .msl _ _ _ _ rfl (nm_upd (hk.nm l _ hl)) fun m sz' get2 hg => ?_⟩
  · rcases hb with h | h
    · have h2 : b < w.heap.size := hk.lt b h
      show b < (w.alloc _).heap.size
      omega
    · show b < (w.alloc _).heap.size
      omega
  · rcases hown b hb with h | h
    · have := hk.own b h
      have h2 : b < w.heap.size := this.2
      exact ⟨.inl this.1, by show b < (w.alloc _).heap.size; omega⟩
    · exact ⟨.inr h, by show b < (w.alloc _).heap.size; omega⟩
  · by_cases e : l' = l
    · subst e; exact nm_upd (hk.nm l' _ hl)
    · rw [(hold l' e).1] at h1; exact nm_upd (hk.nm l' o' h1)
  · by_cases e1 : l1 = l
    · by_cases e2 : l2 = l
      · rw [e1, e2]
      · subst e1
        rw [hBl] at h3
        simp only [Option.some.injEq, Prod.mk.injEq] at h3
        rw [(hold l2 e2).1] at h2; rw [(hold l2 e2).2] at h4
        have h5 : b < w.heap.size := (hk.own b ⟨l2, o2, c2, h2, h4⟩).2
        omega
    · by_cases e2 : l2 = l
      · subst e2
        rw [hBl] at h4
        simp only [Option.some.injEq, Prod.mk.injEq] at h4
        rw [(hold l1 e1).1] at h1; rw [(hold l1 e1).2] at h3
        have h5 : b < w.heap.size := (hk.own b ⟨l1, o1, c1, h1, h3⟩).2
        omega
      · rw [(hold l1 e1).1] at h1; rw [(hold l1 e1).2] at h3
        rw [(hold l2 e2).1] at h2; rw [(hold l2 e2).2] at h4
        exact hk.inj l1 l2 b c1 c2 o1 o2 h1 h2 h3 h4
  · by_cases e : l' = l
    · subst e
      rw [hHl] at h1
      cases h1
      refine ⟨hlen, trivial, ?_⟩
      rw [hBl]
      exact ⟨hn, xs, ty, (0, 0), heap_push_new w _, fun o => by simp, hs, fun i j v hi hv => (hr i j v hi hv).step st fun b hb => (hk.own b hb).1⟩
    · have h3 := hold l' e
      rw [h3.1] at h1
      exact ObjOk.step st hk h1 (h3.1.trans h1) h3.2 fun b c hb => heap_push_lt (hk.own b ⟨l', o', c, h1, hb⟩).2
  · rw [hHl] at hg
    cases hg
    refine ⟨by omega, fun _ => ?_⟩
    rw [hBl]
    simp [mslVal]

/-! ### The model's append, with room and without -/

theorem size_zeroCells' (z : Array Value) (n : Nat) : (Builtin.zeroCells z n).size = n * z.size := by simp [Builtin.zeroCells]

theorem run_append_in {P : Program} {w : World} {t t2 ty e : TypeId} {d2 : TypeDesc} {sz : Nat} (ht : P.underlying t = some (.slice e)) (ht2 : P.underlying t2 = some d2) (hd2 : d2 = .string ∨ ∃ e2, d2 = .slice e2) (hsz : ∀ w : World, (sizeOf e).run P w = .ok sz w)
    {base : Option Addr} {n c m : Nat} {cx : Value} (hlen : (Builtin.lenOf cx).run P w = .ok m w) {ys : Array Value} (hys : (Builtin.firstCells sz m cx).run P w = .ok ys w) (hroom : n + m ≤ c) {w' : World}
    (hst : match base with | none => w' = w | some a => (storeCells (a.add (n * sz)) ys.toList).run P w = .ok () w') :
    (Builtin.append_ #[t, t2] ty #[.slice base n c, cx]).run P w = .ok (.slice base (n + m) c) w' := by
  cases base with
  | none =>
    simp only at hst
    subst hst
    rcases hd2 with rfl | ⟨e2, rfl⟩ <;> simp [Builtin.append_, run_underlying ht, run_underlying ht2, hsz, hlen, hroom, hys]
  | some a =>
    simp only at hst
    rcases hd2 with rfl | ⟨e2, rfl⟩ <;> simp [Builtin.append_, run_underlying ht, run_underlying ht2, hsz, hlen, hroom, hys, hst]

theorem run_append_out {P : Program} {w : World} {t t2 ty e : TypeId} {d2 : TypeDesc} {sz : Nat} {i : TypeInfo} (ht : P.underlying t = some (.slice e)) (ht2 : P.underlying t2 = some d2) (hd2 : d2 = .string ∨ ∃ e2, d2 = .slice e2) (hsz : ∀ w : World, (sizeOf e).run P w = .ok sz w)
    (hi : P.info? e = some i) {cz : Value} (hz : ∀ w : World, (zeroValue e).run P w = .ok cz w) (hb0 : i.bytes ≠ 0) {base : Option Addr} {n c m : Nat} {cx : Value} (hlen : (Builtin.lenOf cx).run P w = .ok m w) {ys olds : Array Value}
    (hys : ∀ w' : World, w'.heap = w.heap → (Builtin.firstCells sz m cx).run P w' = .ok ys w') (hold : ∀ w' : World, w'.heap = w.heap → (Builtin.firstCells sz n (.slice base n c)).run P w' = .ok olds w')
    (hroom : c < n + m) (hcap : Builtin.nextslicecap (n + m) c * i.bytes ≤ 281474976710656) :
    ∃ c', n + m ≤ c' ∧ (Builtin.append_ #[t, t2] ty #[.slice base n c, cx]).run P w =
      .ok (.slice (some ⟨w.heap.size, 0, none⟩) (n + m) c') (w.drew.alloc (.cells (olds ++ ys ++ Builtin.zeroCells cz.cells (c' - (n + m))) e)) := by
  refine ⟨Question.cut (.appendCap (n + m) c e) (w.tape w.drawn (.appendCap (n + m) c e)), by simp [Question.cut], ?_⟩
  have hnot : ¬ n + m ≤ c := by omega
  have hbig : ¬ 281474976710656 < Builtin.nextslicecap (n + m) c * i.bytes := by omega
  have h1 := hys w.drew rfl
  have h2 := hold w.drew rfl
  have hf : (Question.appendCap (n + m) c e).forced = false := rfl
  rcases hd2 with rfl | ⟨e2, rfl⟩ <;>
    simp [Builtin.append_, run_underlying ht, run_underlying ht2, hsz, hlen, hnot, typeInfo, hi, hb0, hbig, hf, h1, h2, hz, newRow]

def isSrcD : TypeDesc → Bool
  | .string | .slice _ => true
  | _ => false

/-- An object is described in another way; the world stays. -/
theorem reobj_ok {w : World} {M : Nat → Prop} {B : Loc → Option (Nat × Nat)} {hp : Heap} {ck : Nat} (hk : HeapOk (mkK w M B hp ck)) {l : Loc} {o o' : AObj} (hl : hp l = some o)
    (hkind : compat (some o) (B l) (B l) o') (ho : ∀ k' : K, k'.w = w → k'.B = B → Step (mkK w M B hp ck) k' → ObjOk k' l o') :
    let k' := mkK w M B (updH hp l o') ck
    Step (mkK w M B hp ck) k' ∧ HeapOk k' := by
  intro k'
  have hold : ∀ l' : Loc, l' ≠ l → k'.hp l' = hp l' := fun l' h => updH_ne h
  have hown : ∀ x, k'.owned x → (mkK w M B hp ck).owned x := by
    rintro x ⟨l', o1, c1, h1, h2⟩
    by_cases e : l' = l
    · subst e; exact ⟨l', o, c1, hl, h2⟩
    · rw [hold l' e] at h1; exact ⟨l', o1, c1, h1, h2⟩
  have st : Step (mkK w M B hp ck) k' := by
    refine ⟨rfl, rfl, rfl, Nat.le_refl _, fun x hx hno => rfl, fun x hx => .inl (hown x hx), fun _ _ h => h, fun _ _ _ h => h, fun l' h => nm_upd h, ?_⟩
    intro l' hl' o1 ho1
    by_cases e : l' = l
    · subst e
      have q : updH hp l' o' l' = some o1 := ho1
      rw [updH_same] at q
      cases q
      show compat (hp l') (B l') (B l') o'
      rw [hl]
      exact hkind
    · rw [hold l' e] at ho1
      exact (Step.refl (mkK w M B hp ck)).names l' hl' o1 ho1
  refine ⟨st, fun x hx => hk.lt x hx, fun x hx => hk.own x (hown x hx), fun l' o1 h1 => ?_, ?_, ?_⟩
  · by_cases e : l' = l
    · subst e; exact nm_upd (hk.nm l' o hl)
    · rw [hold l' e] at h1; exact nm_upd (hk.nm l' o1 h1)
  · intro l1 l2 x c1 c2 o1 o2 h1 h2 h3 h4
    have g : ∀ l' o1, k'.hp l' = some o1 → ∃ o2, hp l' = some o2 := by
      intro l' o1 h
      by_cases e : l' = l
      · exact ⟨o, e ▸ hl⟩
      · rw [hold l' e] at h; exact ⟨o1, h⟩
    obtain ⟨p1, q1⟩ := g l1 o1 h1
    obtain ⟨p2, q2⟩ := g l2 o2 h2
    exact hk.inj l1 l2 x c1 c2 p1 p2 q1 q2 h3 h4
  · intro l' o1 h1
    by_cases e : l' = l
    · subst e
      have q : updH hp l' o' l' = some o1 := h1
      rw [updH_same] at q
      cases q
      exact ho k' rfl rfl st
    · have h3 := hold l' e
      rw [h3] at h1
      exact ObjOk.step st hk h1 (h3.trans h1) rfl fun x c1 hx => rfl

def appendR (P : Program) (s : St) (dst : Option Tmp) (t t2 : TypeId) (x y : V) : Option (Prop × V × Heap) :=
  match P.underlying t, P.underlying t2, srcV s.hp y with
  | some (.slice e), some d2, some (p1, m, src, osz) =>
    if isSrcD d2 = true ∧ (tagg P e).isSome = true ∧ ((tzero P e).bind cellsV).map List.length = some (tsz P e) ∧ tby P e ≠ 0 then
      match x, dst with
      | .nils, some d => match s.hp (s.ck, d) with
        | none => some (p1 ∧ (m = 0 ∨ osz = some (tsz P e)) ∧ m * tby P e ≤ 140737488355328 ∧ m ≤ 140737488355328 ∧ ∀ i, i < m → ∀ v ∈ src i, Pu v ∧ oneC v = true,
            .msl (s.ck, d) 0 m, updH s.hp (s.ck, d) (.arr m (tsz P e) src))
        | some _ => none
      | .msl l off n, _ => match s.hp l with
        | some (.arr n' sz get) => some (p1 ∧ off = 0 ∧ n = n' ∧ sz = tsz P e ∧ (m = 0 ∨ osz = some (tsz P e)) ∧ (n + m) * tby P e ≤ 140737488355328 ∧ n + m ≤ 140737488355328 ∧ ∀ i, i < m → ∀ v ∈ src i, Pu v ∧ oneC v = true,
            .msl l 0 (n + m), updH s.hp l (.arr (n + m) (tsz P e) (fun i => if i < n then get i else src (i - n))))
        | _ => none
      | _, _ => none
    else none
  | _, _, _ => none

/-- The same, of elements that may be slices of the call's own. -/
def appendN (P : Program) (s : St) (dst : Option Tmp) (t t2 : TypeId) (x y : V) : Option (Prop × V × Heap) :=
  match P.underlying t, P.underlying t2, srcV s.hp y with
  | some (.slice e), some d2, some (p1, m, src, osz) =>
    if isSrcD d2 = true ∧ (tagg P e).isSome = true ∧ ((tzero P e).bind cellsV).map List.length = some (tsz P e) ∧ tby P e ≠ 0 then
      match x, dst with
      | .nils, some d => match s.hp (s.ck, d) with
        | none => some (p1 ∧ (m = 0 ∨ osz = some (tsz P e)) ∧ m * tby P e ≤ 140737488355328 ∧ m ≤ 140737488355328 ∧ ∀ i, i < m → ∀ v ∈ src i, (Pu v ∨ isMsl v = true) ∧ oneC v = true,
            .msl (s.ck, d) 0 m, updH s.hp (s.ck, d) (.arr m (tsz P e) src))
        | some _ => none
      | .msl l off n, _ => match s.hp l with
        | some (.arr n' sz get) => some (p1 ∧ off = 0 ∧ n = n' ∧ sz = tsz P e ∧ (m = 0 ∨ osz = some (tsz P e)) ∧ (n + m) * tby P e ≤ 140737488355328 ∧ n + m ≤ 140737488355328 ∧ ∀ i, i < m → ∀ v ∈ src i, (Pu v ∨ isMsl v = true) ∧ oneC v = true,
            .msl l 0 (n + m), updH s.hp l (.arr (n + m) (tsz P e) (fun i => if i < n then get i else src (i - n))))
        | _ => none
      | _, _ => none
    else none
  | _, _, _ => none

theorem appendN_of {P : Program} {s : St} {dst : Option Tmp} {t t2 : TypeId} {x y : V} {p : Prop} {v : V} {h : Heap} (e : appendR P s dst t t2 x y = some (p, v, h)) :
    ∃ p', appendN P s dst t t2 x y = some (p', v, h) ∧ (p → p') := by
  unfold appendR at e
  split at e
  · rename_i el d2 p1 m src osz h1 h2 h3
    split at e
    · rename_i hc
      split at e
      · rename_i d
        cases q : s.hp (s.ck, d) with
        | some x => simp [q] at e
        | none =>
          simp only [q, Option.some.injEq, Prod.mk.injEq] at e
          obtain ⟨rfl, rfl, rfl⟩ := e
          refine ⟨p1 ∧ (m = 0 ∨ osz = some (tsz P el)) ∧ m * tby P el ≤ 140737488355328 ∧ m ≤ 140737488355328 ∧ ∀ i, i < m → ∀ v ∈ src i, (Pu v ∨ isMsl v = true) ∧ oneC v = true, ?_, fun ⟨a, b, c, d, f⟩ => ⟨a, b, c, d, fun i hi v hv => ⟨.inl (f i hi v hv).1, (f i hi v hv).2⟩⟩⟩
          simp only [appendN, h1, h2, h3, if_pos hc, q]
      · rename_i l off n
        cases q : s.hp l with
        | none => simp [q] at e
        | some ob =>
          cases ob with
          | cells cs => simp [q] at e
          | dead => simp [q] at e
          | raw r => simp [q] at e
          | arr n' sz get =>
            simp only [q, Option.some.injEq, Prod.mk.injEq] at e
            obtain ⟨rfl, rfl, rfl⟩ := e
            refine ⟨p1 ∧ off = 0 ∧ n = n' ∧ sz = tsz P el ∧ (m = 0 ∨ osz = some (tsz P el)) ∧ (n + m) * tby P el ≤ 140737488355328 ∧ n + m ≤ 140737488355328 ∧ ∀ i, i < m → ∀ v ∈ src i, (Pu v ∨ isMsl v = true) ∧ oneC v = true, ?_,
              fun ⟨a, b, c, d, f, g, h, k⟩ => ⟨a, b, c, d, f, g, h, fun i hi v hv => ⟨.inl (k i hi v hv).1, (k i hi v hv).2⟩⟩⟩
            simp only [appendN, h1, h2, h3, if_pos hc, q]
      · cases e
    · cases e
  · cases e
/-- What is appended to an empty slice is plain. -/
theorem appendR_pu {P : Program} {s : St} {dst : Option Tmp} {t t2 : TypeId} {x y : V} {p : Prop} {l : Loc} {n : Nat} {h : Heap} {n' sz : Nat} {get : Nat → List V} (hx : ∃ l0 o0, x = .msl l0 o0 0) (e : appendR P s dst t t2 x y = some (p, .msl l 0 n, h)) (hp : p)
    (hl : h l = some (.arr n' sz get)) : ∀ (i j : Nat) (v : V), i < n' → (get i)[j]? = some v → Pu v := by
  obtain ⟨l0, o0, rfl⟩ := hx
  unfold appendR at e
  split at e
  · rename_i el d2 p1 m src osz h1 h2 h3
    split at e
    · rename_i hc
      simp only at e
      cases q : s.hp l0 with
      | none => simp [q] at e
      | some ob =>
        cases ob with
        | cells cs => simp [q] at e
        | dead => simp [q] at e
        | raw r => simp [q] at e
        | arr n2 sz2 get2 =>
          simp only [q, Option.some.injEq, Prod.mk.injEq, V.msl.injEq] at e
          obtain ⟨rfl, ⟨rfl, -, rfl⟩, rfl⟩ := e
          rw [updH_same] at hl
          cases hl
          intro i j v hi hv
          have hv' : (src i)[j]? = some v := by simpa using hv
          exact (hp.2.2.2.2.2.2.2 i (by omega) v (mem_of_get hv')).1
    · cases e
  · cases e

theorem oneC_all {k : K} {ys : Array Value} {m sz : Nat} {src : Nat → List V} (hs : ys.size = m * sz) (hl : ∀ i, i < m → (src i).length = sz) (h1 : ∀ i, i < m → ∀ v ∈ src i, (Pu v ∨ isMsl v = true) ∧ oneC v = true)
    (hr : ∀ (i j : Nat) (v : V), i < m → (src i)[j]? = some v → j < sz ∧ R k v (ys.getD (i * sz + j) undef)) : ∀ v ∈ ys.toList, v.oneCell' = true := by
  intro v hv
  obtain ⟨q, hq⟩ := List.mem_iff_getElem?.1 hv
  have hq2 : ys[q]? = some v := by simpa using hq
  have hlt : q < m * sz := by rw [← hs]; exact (Array.getElem?_eq_some_iff.1 hq2).1
  have hpos : 0 < sz := by
    rcases Nat.eq_zero_or_pos sz with z | z
    · rw [z] at hlt; simp at hlt
    · exact z
  have hi : q / sz < m := by rw [Nat.div_lt_iff_lt_mul hpos]; exact hlt
  have hj : q % sz < (src (q / sz)).length := by rw [hl _ hi]; exact Nat.mod_lt _ hpos
  have hg : (src (q / sz))[q % sz]? = some (src (q / sz))[q % sz] := List.getElem?_eq_getElem hj
  have h2 := (hr _ _ _ hi hg).2
  have e : q / sz * sz + q % sz = q := by rw [Nat.mul_comm]; exact Nat.div_add_mod q sz
  rw [e, getD_some hq2] at h2
  exact oneC_R h2 (h1 _ hi _ (mem_of_get hg)).2

theorem append_run {X : Cx} (hX : X.Ok) {o : Oper} {t t2 : TypeId} {x y : Operand} {s : St} (ho : o.op = .call { callee := .builtin .append, args := #[x, y], argTypes := #[t, t2] }) {pre : Prop} {r : V} {hp' : Heap}
    (h : appendN X.P s o.dst t t2 (ev X s x) (ev X s y) = some (pre, r, hp')) (hpre : pre) (M : Nat → Prop) (B : Loc → Option (Nat × Nat)) (a : Act) (w : World) (hst : Step X.k0 (mkK w M B s.hp s.ck)) (hho : HeapOk (mkK w M B s.hp s.ck))
    (htm : TmOk (mkK w M B s.hp s.ck) s.tm a.tmps) :
    ∃ cv w' M' B', (execOp a.eval o).run X.P w = .ok (.value cv) w' ∧ Step (mkK w M B s.hp s.ck) (mkK w' M' B' hp' s.ck) ∧ HeapOk (mkK w' M' B' hp' s.ck) ∧ R (mkK w' M' B' hp' s.ck) r cv := by
  have hev : ∀ y, R (mkK w M B s.hp s.ck) (ev X s y) (a.eval y) := fun y => ev_R hX (ds := a.defers) hst htm y
  have hx := hev x
  have hy := hev y
  have hexec : ∀ {cv : Value} {w' : World}, (Builtin.append_ #[t, t2] o.type #[a.eval x, a.eval y]).run X.P w = .ok cv w' → (execOp a.eval o).run X.P w = .ok (.value cv) w' := by
    intro cv w' hc
    simp [execOp, ho, resolve, invoke, builtin, hc]
  unfold appendN at h
  split at h
  · rename_i e d2 p1 m src osz hu hu2 hsrc
    split at h
    · rename_i hcond
      obtain ⟨hd2, hg, hzl, hb0⟩ := hcond
      have hd2' : d2 = .string ∨ ∃ e2, d2 = .slice e2 := by cases d2 <;> simp [isSrcD] at hd2 <;> first | exact .inl rfl | exact .inr ⟨_, rfl⟩
      obtain ⟨b, hb⟩ := Option.isSome_iff_exists.1 hg
      obtain ⟨i, hi⟩ : ∃ i, X.P.info? e = some i := by
        unfold tagg at hb
        cases q : X.P.underlying e with
        | none => simp [q] at hb
        | some dd => exact info_of_underlying q
      have hby : tby X.P e = i.bytes := by simp [tby, hi]
      cases hz0 : tzero X.P e with
      | none => simp [hz0] at hzl
      | some z0 =>
        cases hz1 : cellsV z0 with
        | none => simp [hz0, hz1] at hzl
        | some z =>
          simp only [hz0, hz1, Option.bind_some, Option.map_some, Option.some.injEq] at hzl
          have hzrun : ∃ cz, (∀ w' : World, (zeroValue e).run X.P w' = .ok cz w') ∧ cz.cells.size = tsz X.P e := by
            unfold tzero at hz0
            cases hq : i.zero with
            | none => simp [hi, hq] at hz0
            | some cz =>
              refine ⟨cz, fun w' => by simp [zeroValue, typeInfo, hi, hq], ?_⟩
              simp only [hi, Option.bind_some, hq, Option.map_some, Option.some.injEq] at hz0
              subst hz0
              rw [← hzl]
              exact (cellsV_R (ofValue_R (mkK w M B s.hp s.ck) cz) hz1).1
          obtain ⟨cz, hcz, hczs⟩ := hzrun
          have hsz : ∀ w' : World, (sizeOf e).run X.P w' = .ok (tsz X.P e) w' := run_sizeOf' hb
          split at h
          · rename_i d hxe hd
            rw [hxe] at hx
            have hxv := hx.nils_inv
            split at h
            · rename_i hfree
              simp only [Option.some.injEq, Prod.mk.injEq] at h
              obtain ⟨rfl, rfl, rfl⟩ := h
              obtain ⟨hp1, hosz, hbytes, hmax, hone⟩ := hpre
              obtain ⟨hlen, ys, hys, hyss, hsl, hyr⟩ := src_ok (P := X.P) hho hy hsrc hp1 hosz (Nat.le_refl m)
              by_cases hm0 : m = 0
              · subst hm0
                obtain ⟨q1, q2, q3⟩ := new_nil hho (l := (s.ck, d)) hfree rfl (tsz X.P e) src
                refine ⟨.slice none 0 0, w, _, _, hexec ?_, q1, q2, q3⟩
                rw [hxv]
                exact run_append_in hu hu2 hd2' hsz hlen (hys w rfl) (Nat.le_refl 0) (base := none) rfl
              · have hroom : 0 < 0 + m := by omega
                have hcap : Builtin.nextslicecap (0 + m) 0 * i.bytes ≤ 281474976710656 := growslice_fits (by omega) (by rw [Nat.zero_add, ← hby]; exact hbytes)
                obtain ⟨c', hc', hrun⟩ := run_append_out (ty := o.type) hu hu2 hd2' hsz hi hcz (by rw [← hby]; exact hb0) (base := none) (n := 0) (c := 0) hlen hys (fun w' _ => by simp [Builtin.firstCells]; rfl) hroom hcap
                obtain ⟨d1, d2⟩ := drew_ok hho
                obtain ⟨q1, q2, q3⟩ := new_arr d2 (l := (s.ck, d)) hfree rfl (n := m) (sz := tsz X.P e) (c := c') (get := src) (xs := #[] ++ ys ++ Builtin.zeroCells cz.cells (c' - (0 + m))) e (by omega)
                  (by simp only [Array.size_append, Array.size_empty, hyss, size_zeroCells', hczs, Nat.zero_add]
                      rw [← Nat.add_mul]; congr 1; omega)
                  hsl
                  (fun i j v hi hv => by
                    obtain ⟨hj, hr⟩ := hyr i j v hi hv
                    have hlt : i * tsz X.P e + j < ys.size := by
                      rw [hyss]
                      have : (i + 1) * tsz X.P e ≤ m * tsz X.P e := Nat.mul_le_mul_right _ (by omega)
                      rw [Nat.add_mul] at this; omega
                    have he : (#[] ++ ys ++ Builtin.zeroCells cz.cells (c' - (0 + m))).getD (i * tsz X.P e + j) undef = ys.getD (i * tsz X.P e + j) undef := by
                      simp only [Array.getD_eq_getD_getElem?, Array.empty_append]
                      rw [Array.getElem?_append_left hlt]
                    rw [he]; exact hr.step d1 fun b hb => (hho.own b hb).1)
                refine ⟨_, _, _, _, hexec ?_, d1.trans q1, q2, q3⟩
                rw [hxv]
                rw [Nat.zero_add] at hrun ⊢
                exact hrun
            · cases h
          · rename_i l off n hxe
            rw [hxe] at hx
            cases ho2 : s.hp l with
            | none => simp [ho2] at h
            | some ob =>
              cases ob with
              | cells cs => simp [ho2] at h
              | dead => simp [ho2] at h
              | raw r => simp [ho2] at h
              | arr n' sz get =>
                simp only [ho2, Option.some.injEq, Prod.mk.injEq] at h
                obtain ⟨rfl, rfl, rfl⟩ := h
                obtain ⟨hp1, hoff, hn, hszz, hosz, hbytes, hmax, hone⟩ := hpre
                subst hoff
                subst hn
                subst hszz
                obtain ⟨hlen, ys, hys, hyss, hsl, hyr⟩ := src_ok (P := X.P) hho hy hsrc hp1 hosz (Nat.le_refl m)
                obtain ⟨g1, g2, g3⟩ := hho.obj l _ ho2
                have hx' := hx
                generalize hq : a.eval x = cx at hx
                cases hx with
                | msl _ _ _ _ h1c hnm hh =>
                  obtain ⟨q1, q2⟩ := hh _ _ _ ho2
                  have hcx := q2 (by omega)
                  have hget : ∀ i, i < n + m → ((fun i => if i < n then get i else src (i - n)) i).length = tsz X.P e := by
                    intro i hi
                    by_cases e : i < n
                    · simp only [e, if_true]; exact g1 i e
                    · simp only [e, if_false]; exact hsl _ (by omega)
                  have hcell : ∀ (xs : Array Value) (k' : K), (∀ (i j : Nat) (v : V), i < n → (get i)[j]? = some v → R k' v (xs.getD (i * tsz X.P e + j) undef)) →
                      (∀ (i j : Nat) (v : V), i < m → (src i)[j]? = some v → R k' v (xs.getD ((n + i) * tsz X.P e + j) undef)) →
                      ∀ (i j : Nat) (v : V), i < n + m → ((fun i => if i < n then get i else src (i - n)) i)[j]? = some v → R k' v (xs.getD (i * tsz X.P e + j) undef) := by
                    intro xs k' a1 a2 i j v hi hv
                    by_cases e : i < n
                    · simp only [e, if_true] at hv; exact a1 i j v e hv
                    · simp only [e, if_false] at hv
                      have := a2 (i - n) j v (by omega) hv
                      rwa [show n + (i - n) = i by omega] at this
                  have hrow : ∀ i j, i < m → j < tsz X.P e → i * tsz X.P e + j < ys.size := by
                    intro i j hi hj
                    rw [hyss]
                    have : (i + 1) * tsz X.P e ≤ m * tsz X.P e := Nat.mul_le_mul_right _ (by omega)
                    rw [Nat.add_mul] at this; omega
                  cases hB : (mkK w M B s.hp s.ck).B l with
                  | none =>
                    simp only [hB] at g3
                    subst g3
                    simp only [hB, mslVal] at hcx
                    by_cases hm0 : m = 0
                    · subst hm0
                      have hBl : B l = none := hB
                      obtain ⟨r1, r2⟩ := reobj_ok hho (l := l) ho2 (o' := .arr (0 + 0) (tsz X.P e) (fun i => if i < 0 then get i else src (i - 0))) ⟨0, get, rfl, Nat.le_refl _, fun _ => rfl⟩
                        (fun k' hw hB' st => ⟨fun i hi => by omega, trivial, by rw [hB', hBl]⟩)
                      refine ⟨cx, w, M, B, hexec ?_, r1, r2, (hq ▸ hx'.step r1 fun b hb => (hho.own b hb).1 : R _ (.msl l 0 0) cx)⟩
                      rw [hq, hcx]
                      exact run_append_in hu hu2 hd2' hsz hlen (hys w rfl) (Nat.le_refl 0) (base := none) rfl
                    · have hroom : 0 < 0 + m := by omega
                      have hcap : Builtin.nextslicecap (0 + m) 0 * i.bytes ≤ 281474976710656 := growslice_fits (by omega) (by rw [← hby]; exact hbytes)
                      obtain ⟨c', hc', hrun⟩ := run_append_out (ty := o.type) hu hu2 hd2' hsz hi hcz (by rw [← hby]; exact hb0) (base := none) (n := 0) (c := 0) hlen hys (olds := #[]) (fun w' _ => by simp [Builtin.firstCells]) hroom hcap
                      obtain ⟨dr1, dr2⟩ := drew_ok hho
                      obtain ⟨q1', q2', q3'⟩ := grow_ok dr2 (l := l) ho2 (n' := 0 + m) (c := c') (get' := fun i => if i < 0 then get i else src (i - 0)) (xs := #[] ++ ys ++ Builtin.zeroCells cz.cells (c' - (0 + m))) e (by omega) hc'
                        (by simp only [Array.size_append, Array.size_empty, hyss, size_zeroCells', hczs, Nat.zero_add]
                            rw [← Nat.add_mul]; congr 1; omega)
                        hget (hcell _ _ (fun i j v hi => by omega) (fun i j v hi hv => by
                          obtain ⟨hj, hr⟩ := hyr i j v hi hv
                          have he : (#[] ++ ys ++ Builtin.zeroCells cz.cells (c' - (0 + m))).getD ((0 + i) * tsz X.P e + j) undef = ys.getD (i * tsz X.P e + j) undef := by
                            simp only [Array.getD_eq_getD_getElem?, Array.empty_append, Nat.zero_add]
                            rw [Array.getElem?_append_left (hrow i j hi hj)]
                          rw [he]; exact hr.step dr1 fun b hb => (hho.own b hb).1))
                      exact ⟨_, _, _, _, hexec (by rw [hq, hcx]; exact hrun), dr1.trans q1', q2', q3'⟩
                  | some bc =>
                    obtain ⟨bb, c⟩ := bc
                    simp only [hB] at g3
                    obtain ⟨hnc, xs, ty, fz, hh2, hz, hs, hr⟩ := g3
                    simp only [hB, mslVal, Nat.zero_mul, Nat.sub_zero] at hcx
                    have hBl : B l = some (bb, c) := hB
                    by_cases hroom : n + m ≤ c
                    · -- in place
                      have hfit : n * tsz X.P e + ys.toList.length ≤ xs.size := by
                        rw [Array.length_toList, hyss, hs, ← Nat.add_mul]; exact Nat.mul_le_mul_right _ hroom
                      have hst := run_storeCells_cells (P := X.P) bb (n * tsz X.P e) ys.toList 0 w (fun j hj => by
                        rw [Nat.add_zero]; exact Option.isSome_iff_exists.2 ⟨_, cell_of_cells (w := w) hh2 (by omega)⟩) (fun j hj => frozen_false hh2 hz) (oneC_all hyss hsl hone hyr)
                      rw [Nat.add_zero] at hst
                      obtain ⟨r1, r2⟩ := write_ok hho (l := l) ho2 (o' := .arr (n + m) (tsz X.P e) (fun i => if i < n then get i else src (i - n))) (b := bb) (c := c) hBl ⟨n, get, rfl, by omega, fun _ => rfl⟩ (w' := w.setCells bb (n * tsz X.P e) ys.toList)
                        (setCells_meta _) (fun x hx => setCells_other _ hx) (fun k' hw hB' st => by
                          refine ⟨hget, trivial, ?_⟩
                          rw [hB']
                          refine ⟨hroom, setArr xs (n * tsz X.P e) ys.toList, ty, fz, by rw [hw]; exact setCells_heap _ hh2, hz, by rw [setArr_size]; exact hs, hcell _ _ (fun i j v hi hv => ?_) fun i j v hi hv => ?_⟩
                          · have hj : j < tsz X.P e := by have := (List.getElem?_eq_some_iff.1 hv).1; rw [g1 i hi] at this; exact this
                            rw [setArr_out _ _ _ _ (.inl (by
                              have : (i + 1) * tsz X.P e ≤ n * tsz X.P e := Nat.mul_le_mul_right _ (by omega)
                              rw [Nat.add_mul] at this; omega))]
                            exact (hr i j v hi hv).step st fun b hb => (hho.own b hb).1
                          · obtain ⟨hj, hr'⟩ := hyr i j v hi hv
                            have hin : ∀ (vs : List Value) (zs : Array Value) (o q : Nat), q < vs.length → o + vs.length ≤ zs.size → (setArr zs o vs).getD (o + q) undef = vs.getD q undef := by
                              intro vs
                              induction vs with
                              | nil => intro zs o q h; simp at h
                              | cons u vs ih =>
                                intro zs o q h hle
                                rw [setArr]
                                cases q with
                                | zero =>
                                  rw [setArr_out _ _ _ _ (.inl (by omega))]
                                  simp only [List.length_cons] at hle
                                  simp [Array.getD_eq_getD_getElem?, Array.getElem?_setIfInBounds, show o < zs.size by omega]
                                | succ q =>
                                  simp only [List.length_cons] at h hle
                                  have := ih (zs.setIfInBounds o u) (o + 1) q (by omega) (by simpa using by omega)
                                  rw [show o + (q + 1) = o + 1 + q by omega, this]
                                  simp [List.getD_eq_getElem?_getD]
                            have h9 := hin ys.toList xs (n * tsz X.P e) (i * tsz X.P e + j) (by rw [Array.length_toList]; exact hrow i j hi hj) hfit
                            rw [show (n + i) * tsz X.P e + j = n * tsz X.P e + (i * tsz X.P e + j) by rw [Nat.add_mul]; omega, h9]
                            have h10 : ys.toList.getD (i * tsz X.P e + j) undef = ys.getD (i * tsz X.P e + j) undef := by
                              simp [List.getD_eq_getElem?_getD, Array.getD_eq_getD_getElem?]
                            rw [h10]
                            exact hr'.step st fun b hb => (hho.own b hb).1)
                      refine ⟨.slice (some ⟨bb, 0, none⟩) (n + m) c, _, M, B, hexec ?_, r1, r2, .msl _ _ _ _ rfl (r1.nm l hnm) fun n2 sz2 get2 hg2 => ?_⟩
                      · rw [hq, hcx]
                        refine run_append_in hu hu2 hd2' hsz hlen (hys w rfl) hroom ?_
                        show (storeCells ((⟨bb, 0, none⟩ : Addr).add (n * tsz X.P e)) ys.toList).run X.P w = _
                        rw [addr_add, Nat.zero_add]
                        exact hst
                      · have hg3 : updH s.hp l (.arr (n + m) (tsz X.P e) (fun i => if i < n then get i else src (i - n))) l = some (.arr n2 sz2 get2) := hg2
                        rw [updH_same] at hg3
                        cases hg3
                        refine ⟨by omega, fun _ => ?_⟩
                        show _ = mslVal (B l) 0 _ _
                        rw [hBl]
                        simp [mslVal]
                    · -- a new block
                      have hcap : Builtin.nextslicecap (n + m) c * i.bytes ≤ 281474976710656 := growslice_fits (by omega) (by rw [← hby]; exact hbytes)
                      have holds := src_ok (P := X.P) hho (x := .msl l 0 n) (cx := cx) (by rw [← hq]; exact hq ▸ hx') (pre := 0 + n = n) (n := n) (get := fun i => get (0 + i)) (osz := some (tsz X.P e)) (sz := tsz X.P e) (by
                        have : (mkK w M B s.hp s.ck).hp l = some (.arr n (tsz X.P e) get) := ho2
                        simp [srcV, this]) (by omega) (.inr rfl) (Nat.le_refl n)
                      obtain ⟨_, olds, holdr, holds1, holds2, holds3⟩ := holds
                      rw [hcx] at holdr
                      obtain ⟨c', hc', hrun⟩ := run_append_out (ty := o.type) hu hu2 hd2' hsz hi hcz (by rw [← hby]; exact hb0) (base := some ⟨bb, 0, none⟩) (n := n) (c := c) hlen hys holdr (by omega) hcap
                      obtain ⟨dr1, dr2⟩ := drew_ok hho
                      have holdrow : ∀ i j, i < n → j < tsz X.P e → i * tsz X.P e + j < olds.size := by
                        intro i j hi hj
                        rw [holds1]
                        have : (i + 1) * tsz X.P e ≤ n * tsz X.P e := Nat.mul_le_mul_right _ (by omega)
                        rw [Nat.add_mul] at this; omega
                      obtain ⟨q1', q2', q3'⟩ := grow_ok dr2 (l := l) ho2 (n' := n + m) (c := c') (get' := fun i => if i < n then get i else src (i - n)) (xs := olds ++ ys ++ Builtin.zeroCells cz.cells (c' - (n + m))) e (by omega) hc'
                        (by simp only [Array.size_append, hyss, holds1, size_zeroCells', hczs]
                            rw [← Nat.add_mul, ← Nat.add_mul]; congr 1; omega)
                        hget (hcell _ _ (fun i j v hi hv => by
                          obtain ⟨hj, hr'⟩ := holds3 i j v hi (by rw [Nat.zero_add]; exact hv)
                          have he : (olds ++ ys ++ Builtin.zeroCells cz.cells (c' - (n + m))).getD (i * tsz X.P e + j) undef = olds.getD (i * tsz X.P e + j) undef := by
                            simp only [Array.getD_eq_getD_getElem?]
                            rw [Array.append_assoc, Array.getElem?_append_left (holdrow i j hi hj)]
                          rw [he]; exact hr'.step dr1 fun b hb => (hho.own b hb).1) (fun i j v hi hv => by
                          obtain ⟨hj, hr'⟩ := hyr i j v hi hv
                          have he : (olds ++ ys ++ Builtin.zeroCells cz.cells (c' - (n + m))).getD ((n + i) * tsz X.P e + j) undef = ys.getD (i * tsz X.P e + j) undef := by
                            simp only [Array.getD_eq_getD_getElem?]
                            rw [Array.append_assoc, Array.getElem?_append_right (by rw [holds1, Nat.add_mul]; omega), holds1,
                              show (n + i) * tsz X.P e + j - n * tsz X.P e = i * tsz X.P e + j by rw [Nat.add_mul]; omega, Array.getElem?_append_left (hrow i j hi hj)]
                          rw [he]; exact hr'.step dr1 fun b hb => (hho.own b hb).1))
                      exact ⟨_, _, _, _, hexec (by rw [hq, hcx]; exact hrun), dr1.trans q1', q2', q3'⟩
          · cases h
    · cases h
  · cases h

/-- An array that is not written any more becomes a frozen one. -/
theorem kill_ok {w : World} {M : Nat → Prop} {B : Loc → Option (Nat × Nat)} {hp : Heap} {ck : Nat} (hk : HeapOk (mkK w M B hp ck)) {l : Loc} {n sz : Nat} {get : Nat → List V} (hl : hp l = some (.arr n sz get)) (hpr : ∀ (i j : Nat) (v : V), i < n → (get i)[j]? = some v → Pu v) :
    ∃ M' B', Step (mkK w M B hp ck) (mkK w M' B' (updH hp l .dead) ck) ∧ HeapOk (mkK w M' B' (updH hp l .dead) ck) ∧
      ∀ cv, R (mkK w M B hp ck) (.msl l 0 n) cv → R (mkK w M' B' (updH hp l .dead) ck) (.sl n sz get) cv := by
  let k' : K := mkK w (fun b => M b ∧ ∀ c, B l ≠ some (b, c)) (updB B l none) (updH hp l .dead) ck
  have hold : ∀ l' : Loc, l' ≠ l → updH hp l .dead l' = hp l' ∧ updB B l none l' = B l' := fun l' h => ⟨updH_ne h, updB_ne h⟩
  have hown : ∀ b, k'.owned b → ∃ l' o c, l' ≠ l ∧ hp l' = some o ∧ B l' = some (b, c) := by
    rintro b ⟨l', o', c', h1, h2⟩
    by_cases e : l' = l
    · subst e
      have : updB B l' none l' = some (b, c') := h2
      rw [updB_same] at this
      cases this
    · have h3 : updH hp l .dead l' = some o' := h1
      have h4 : updB B l none l' = some (b, c') := h2
      rw [(hold l' e).1] at h3; rw [(hold l' e).2] at h4
      exact ⟨l', o', c', e, h3, h4⟩
  have st : Step (mkK w M B hp ck) k' := by
    refine ⟨rfl, rfl, rfl, Nat.le_refl _, fun _ _ _ => rfl, fun b hb => ?_, fun b _ hm => hm.1, fun b _ ho hm => ⟨hm, fun c hc => ho ⟨l, _, c, hl, hc⟩⟩, fun l' h => nm_upd h, fun l' hl' o' ho' => ?_⟩
    · obtain ⟨l', o, c, _, h1, h2⟩ := hown b hb
      exact .inl ⟨l', o, c, h1, h2⟩
    · by_cases e : l' = l
      · subst e
        have h3 : updH hp l' .dead l' = some o' := ho'
        rw [updH_same] at h3
        cases h3
        trivial
      · have h3 : updH hp l .dead l' = some o' := ho'
        rw [(hold l' e).1] at h3
        have q := (Step.refl (mkK w M B hp ck)).names l' hl' o' h3
        cases o' with
        | dead => trivial
        | raw r => trivial
        | cells cs => exact ⟨q.1, (hold l' e).2⟩
        | arr n sz get => obtain ⟨n0, g0, q1, q2, q3⟩ := q; exact ⟨n0, g0, q1, q2, fun _ => (hold l' e).2⟩
  refine ⟨_, _, st, ⟨fun b hb => hk.lt b hb.1, fun b hb => ?_, fun l' o' h1 => ?_, fun l1 l2 b c1 c2 o1 o2 h1 h2 h3 h4 => ?_, fun l' o' h1 => ?_⟩, ?_⟩
  · obtain ⟨l', o, c, e, h1, h2⟩ := hown b hb
    refine ⟨⟨(hk.own b ⟨l', o, c, h1, h2⟩).1, fun c' hc => e (hk.inj l' l b c c' o _ h1 hl h2 hc)⟩, (hk.own b ⟨l', o, c, h1, h2⟩).2⟩
  · by_cases e : l' = l
    · subst e; exact nm_upd (hk.nm l' _ hl)
    · have h3 : updH hp l .dead l' = some o' := h1
      rw [(hold l' e).1] at h3
      exact nm_upd (hk.nm l' o' h3)
  · have f : ∀ l' c, updB B l none l' = some (b, c) → l' ≠ l := by
      intro l' c h e
      subst e
      rw [updB_same] at h
      cases h
    have e1 := f l1 c1 h3
    have e2 := f l2 c2 h4
    have h1' : updH hp l .dead l1 = some o1 := h1
    have h2' : updH hp l .dead l2 = some o2 := h2
    have h3' : updB B l none l1 = some (b, c1) := h3
    have h4' : updB B l none l2 = some (b, c2) := h4
    rw [(hold l1 e1).1] at h1'
    rw [(hold l2 e2).1] at h2'
    rw [(hold l1 e1).2] at h3'
    rw [(hold l2 e2).2] at h4'
    exact hk.inj l1 l2 b c1 c2 o1 o2 h1' h2' h3' h4'
  · by_cases e : l' = l
    · subst e
      have h3 : updH hp l' .dead l' = some o' := h1
      rw [updH_same] at h3
      cases h3
      exact updB_same B l' none
    · have h3 : updH hp l .dead l' = some o' := h1
      rw [(hold l' e).1] at h3
      exact ObjOk.step st hk h3 (by show updH hp l .dead l' = _; rw [(hold l' e).1]; exact h3) (hold l' e).2 fun _ _ _ => rfl
  · intro cv hv
    cases hv with
    | msl _ _ _ _ h1c hn h =>
      obtain ⟨h1, h2⟩ := h _ _ _ hl
      have hcv := h2 (by omega)
      obtain ⟨g1, g2, g3⟩ := hk.obj l _ hl
      have hpu : Pu (.sl n sz get) := .sl _ _ _ hpr
      cases hB : (mkK w M B hp ck).B l with
      | none =>
        simp only [hB] at g3
        subst g3
        simp only [hB, mslVal] at hcv
        subst hcv
        exact .sl0 _ _ _ _
      | some bc =>
        obtain ⟨b, c⟩ := bc
        simp only [hB] at g3
        obtain ⟨hnc, xs, ty, fz, hh, hz, hs, hr⟩ := g3
        simp only [hB, mslVal] at hcv
        subst hcv
        refine .sl _ _ _ b (0 * sz) (c - 0) (fun i j => xs.getD (i * sz + j) undef) (fun q => q.2 c hB) (lt_of_heap hh) (by omega) hpu (fun i hi => g1 _ hi) (fun i j hi hj => ?_) fun i j v hi hv => ?_
        · rw [Nat.zero_mul, Nat.zero_add]
          have hlt : i * sz + j < xs.size := by
            rw [hs]
            have : (i + 1) * sz ≤ c * sz := Nat.mul_le_mul_right _ (by omega)
            rw [Nat.add_mul i] at this
            omega
          exact cell_of_cells hh hlt
        · exact (hr i j v hi hv).step st fun b hb => (hk.own b hb).1

/-- 'append' to an empty literal of what is frozen: the outcome is frozen, too. -/
def appendF (P : Program) (s : St) (dst : Option Tmp) (t t2 : TypeId) (x y : V) : Option (Prop × V × Heap) :=
  match x, y with
  | .msl _ _ 0, .sl _ _ _ | .msl _ _ 0, .nils => match appendR P s dst t t2 x y with
    | some (p, .msl l 0 n, hp') => match hp' l with
      | some (.arr n' sz get) => if n = n' then some (p, .sl n sz get, updH hp' l .dead) else none
      | _ => none
    | _ => none
  | _, _ => appendN P s dst t t2 x y

theorem appendN_ok {X : Cx} (hX : X.Ok) {o : Oper} {t t2 : TypeId} {x y : Operand} {s : St} {Kn : St → Prop} (ho : o.op = .call { callee := .builtin .append, args := #[x, y], argTypes := #[t, t2] }) {pre : Prop} {r : V} {hp' : Heap}
    (h : appendN X.P s o.dst t t2 (ev X s x) (ev X s y) = some (pre, r, hp')) (hpre : pre) (hK : Kn ⟨s.ck, putTm s.tm o.dst r, hp'⟩) : OpOk X o s Kn :=
  OpOk.of_run r hp' (by simp [ho]) (fun M B a w hst hho htm => append_run hX ho h hpre M B a w hst hho htm) hK

theorem append_ok {X : Cx} (hX : X.Ok) {o : Oper} {t t2 : TypeId} {x y : Operand} {s : St} {Kn : St → Prop} (ho : o.op = .call { callee := .builtin .append, args := #[x, y], argTypes := #[t, t2] }) {pre : Prop} {r : V} {hp' : Heap}
    (h : appendF X.P s o.dst t t2 (ev X s x) (ev X s y) = some (pre, r, hp')) (hpre : pre) (hK : Kn ⟨s.ck, putTm s.tm o.dst r, hp'⟩) : OpOk X o s Kn := by
  refine OpOk.of_run r hp' (by simp [ho]) (fun M B a w hst hho htm => ?_) hK
  have hfin : ∀ {p : Prop} {l : Loc} {n : Nat} {hp1 : Heap} {n' sz : Nat} {get : Nat → List V}, appendR X.P s o.dst t t2 (ev X s x) (ev X s y) = some (p, .msl l 0 n, hp1) → p → hp1 l = some (.arr n' sz get) → n = n' → (∀ (i j : Nat) (v : V), i < n' → (get i)[j]? = some v → Pu v) →
      ∃ cv w' M' B', (execOp a.eval o).run X.P w = .ok (.value cv) w' ∧ Step (mkK w M B s.hp s.ck) (mkK w' M' B' (updH hp1 l .dead) s.ck) ∧ HeapOk (mkK w' M' B' (updH hp1 l .dead) s.ck) ∧ R (mkK w' M' B' (updH hp1 l .dead) s.ck) (.sl n sz get) cv := by
    intro p l n hp1 n' sz get h1 h2 h3 h4 h5
    subst h4
    obtain ⟨p', e1, e2⟩ := appendN_of h1
    obtain ⟨cv, w', M', B', q1, q2, q3, q4⟩ := append_run hX ho e1 (e2 h2) M B a w hst hho htm
    obtain ⟨M2, B2, r1, r2, r3⟩ := kill_ok q3 h3 h5
    exact ⟨cv, w', M2, B2, q1, q2.trans r1, r2, r3 cv q4⟩
  unfold appendF at h
  split at h
  · split at h
    · rename_i p l n hp1 hap
      split at h
      · rename_i n' sz get hg
        split at h
        · rename_i e
          simp only [Option.some.injEq, Prod.mk.injEq] at h
          obtain ⟨rfl, rfl, rfl⟩ := h
          exact hfin (by simp_all) hpre hg e (appendR_pu ⟨_, _, by assumption⟩ hap hpre hg)
        · cases h
      · cases h
    · cases h
  · split at h
    · rename_i p l n hp1 hap
      split at h
      · rename_i n' sz get hg
        split at h
        · rename_i e
          simp only [Option.some.injEq, Prod.mk.injEq] at h
          obtain ⟨rfl, rfl, rfl⟩ := h
          exact hfin (by simp_all) hpre hg e (appendR_pu ⟨_, _, by assumption⟩ hap hpre hg)
        · cases h
      · cases h
    · cases h
  · exact append_run hX ho h hpre M B a w hst hho htm

/-- 'append' to a list of the call's own whose outcome is not written any more. -/
def appendZ (P : Program) (s : St) (dst : Option Tmp) (t t2 : TypeId) (x y : V) : Option (Prop × V × Heap) :=
  match x with
  | .msl _ _ _ => match appendR P s dst t t2 x y with
    | some (p, .msl l 0 n, hp') => match hp' l with
      | some (.arr n' sz get) => if n = n' then some (p ∧ ∀ i, i < n' → ∀ v ∈ get i, Pu v, .sl n sz get, updH hp' l .dead) else none
      | _ => none
    | _ => none
  | _ => none

theorem appendZ_ok {X : Cx} (hX : X.Ok) {o : Oper} {t t2 : TypeId} {x y : Operand} {s : St} {Kn : St → Prop} (ho : o.op = .call { callee := .builtin .append, args := #[x, y], argTypes := #[t, t2] }) {pre : Prop} {r : V} {hp' : Heap}
    (h : appendZ X.P s o.dst t t2 (ev X s x) (ev X s y) = some (pre, r, hp')) (hpre : pre) (hK : Kn ⟨s.ck, putTm s.tm o.dst r, hp'⟩) : OpOk X o s Kn := by
  refine OpOk.of_run r hp' (by simp [ho]) (fun M B a w hst hho htm => ?_) hK
  unfold appendZ at h
  split at h
  · split at h
    · rename_i p l n hp1 hap
      split at h
      · rename_i n' sz get hg
        split at h
        · rename_i e
          simp only [Option.some.injEq, Prod.mk.injEq] at h
          obtain ⟨rfl, rfl, rfl⟩ := h
          subst e
          obtain ⟨hp0, hpu⟩ := hpre
          obtain ⟨p', e1, e2⟩ := appendN_of hap
          obtain ⟨cv, w', M', B', q1, q2, q3, q4⟩ := append_run hX ho e1 (e2 hp0) M B a w hst hho htm
          obtain ⟨M2, B2, r1, r2, r3⟩ := kill_ok q3 hg fun i j v hi hv => hpu i hi v (mem_of_get hv)
          exact ⟨cv, w', M2, B2, q1, q2.trans r1, r2, r3 cv q4⟩
        · cases h
      · cases h
    · cases h
  · cases h

/-! ### copy of as many elements as there is room for -/

theorem run_copy {P : Program} {w : World} {t t2 ty e : TypeId} {sz : Nat} (ht : P.underlying t = some (.slice e)) (hsz : ∀ w : World, (sizeOf e).run P w = .ok sz w)
    {base : Option Addr} {n c : Nat} {cx : Value} (hlen : (Builtin.lenOf cx).run P w = .ok n w) {ys : Array Value} (hys : (Builtin.firstCells sz n cx).run P w = .ok ys w) {w' : World}
    (hst : match base with | none => w' = w | some a => (storeCells a ys.toList).run P w = .ok () w') :
    (Builtin.copy_ #[t, t2] ty #[.slice base n c, cx]).run P w = .ok (goInt n) w' := by
  have hmin : Nat.min n n = n := Nat.min_self n
  cases base with
  | none =>
    simp only at hst
    subst hst
    simp [Builtin.copy_, run_underlying ht, hsz, hlen, hys, hmin]
  | some a =>
    simp only at hst
    simp [Builtin.copy_, run_underlying ht, hsz, hlen, hys, hst, hmin]

def copyR (P : Program) (s : St) (t : TypeId) (x y : V) : Option (Prop × V × Heap) :=
  match P.underlying t, srcV s.hp y with
  | some (.slice e), some (p1, m, src, osz) =>
    if (tagg P e).isSome = true then
      match x with
      | .msl l off n => match s.hp l with
        | some (.arr n' sz get) => some (p1 ∧ off = 0 ∧ n = n' ∧ m = n ∧ sz = tsz P e ∧ (m = 0 ∨ osz = some (tsz P e)) ∧ ∀ i, i < m → ∀ v ∈ src i, Pu v ∧ oneC v = true,
            .int .i64 n, updH s.hp l (.arr n (tsz P e) src))
        | _ => none
      | _ => none
    else none
  | _, _ => none

theorem copy_ok {X : Cx} (hX : X.Ok) {o : Oper} {t t2 : TypeId} {x y : Operand} {s : St} {Kn : St → Prop} (ho : o.op = .call { callee := .builtin .copy, args := #[x, y], argTypes := #[t, t2] }) {pre : Prop} {r : V} {hp' : Heap}
    (h : copyR X.P s t (ev X s x) (ev X s y) = some (pre, r, hp')) (hpre : pre) (hK : Kn ⟨s.ck, putTm s.tm o.dst r, hp'⟩) : OpOk X o s Kn := by
  refine OpOk.of_run r hp' (by simp [ho]) (fun M B a w hst hho htm => ?_) hK
  have hev : ∀ y, R (mkK w M B s.hp s.ck) (ev X s y) (a.eval y) := fun y => ev_R hX (ds := a.defers) hst htm y
  have hx := hev x
  have hy := hev y
  have hexec : ∀ {cv : Value} {w' : World}, (Builtin.copy_ #[t, t2] o.type #[a.eval x, a.eval y]).run X.P w = .ok cv w' → (execOp a.eval o).run X.P w = .ok (.value cv) w' := by
    intro cv w' hc
    simp [execOp, ho, resolve, invoke, builtin, hc]
  unfold copyR at h
  split at h
  · rename_i e p1 m src osz hu hsrc
    split at h
    · rename_i hg
      obtain ⟨b, hb⟩ := Option.isSome_iff_exists.1 hg
      have hsz : ∀ w' : World, (sizeOf e).run X.P w' = .ok (tsz X.P e) w' := run_sizeOf' hb
      split at h
      · rename_i l off n hxe
        rw [hxe] at hx
        cases ho2 : s.hp l with
        | none => simp [ho2] at h
        | some ob =>
          cases ob with
          | cells cs => simp [ho2] at h
          | dead => simp [ho2] at h
          | raw r => simp [ho2] at h
          | arr n' sz get =>
            simp only [ho2, Option.some.injEq, Prod.mk.injEq] at h
            obtain ⟨rfl, rfl, rfl⟩ := h
            obtain ⟨hp1, hoff, hn, hmn, hszz, hosz, hone⟩ := hpre
            subst hoff
            subst hn
            subst hmn
            subst hszz
            obtain ⟨hlen, ys, hys, hyss, hsl, hyr⟩ := src_ok (P := X.P) hho hy hsrc hp1 hosz (Nat.le_refl m)
            obtain ⟨g1, g2, g3⟩ := hho.obj l _ ho2
            have hgi : goInt m = .int .i64 (m : Int) := rfl
            generalize hq : a.eval x = cx at hx
            cases hx with
            | msl _ _ _ _ h1c hnm hh =>
              obtain ⟨q1, q2⟩ := hh _ _ _ ho2
              have hcx := q2 (by omega)
              cases hB : (mkK w M B s.hp s.ck).B l with
              | none =>
                simp only [hB] at g3
                subst g3
                simp only [hB, mslVal] at hcx
                have hBl : B l = none := hB
                obtain ⟨r1, r2⟩ := reobj_ok hho (l := l) ho2 (o' := .arr 0 (tsz X.P e) src) ⟨0, get, rfl, Nat.le_refl _, fun _ => rfl⟩
                  (fun k' hw hB' st => ⟨fun i hi => by omega, trivial, by rw [hB', hBl]⟩)
                refine ⟨.int .i64 ((0 : Nat) : Int), w, M, B, hexec ?_, r1, r2, .int _ _⟩
                rw [hq, hcx, ← hgi]
                exact run_copy hu hsz hlen (hys w rfl) (base := none) rfl
              | some bc =>
                obtain ⟨bb, c⟩ := bc
                simp only [hB] at g3
                obtain ⟨hnc, xs, ty, fz, hh2, hz, hs, hr⟩ := g3
                simp only [hB, mslVal, Nat.zero_mul, Nat.sub_zero] at hcx
                have hBl : B l = some (bb, c) := hB
                have hfit : 0 + ys.toList.length ≤ xs.size := by
                  rw [Array.length_toList, hyss, hs, Nat.zero_add]; exact Nat.mul_le_mul_right _ hnc
                have hstc := run_storeCells_cells (P := X.P) bb 0 ys.toList 0 w (fun j hj => by
                  rw [Nat.add_zero]; exact Option.isSome_iff_exists.2 ⟨_, cell_of_cells (w := w) hh2 (by omega)⟩) (fun j hj => frozen_false hh2 hz) (oneC_all hyss hsl (fun i hi v hv => ⟨.inl (hone i hi v hv).1, (hone i hi v hv).2⟩) hyr)
                rw [Nat.add_zero] at hstc
                have hrow : ∀ i j, i < m → j < tsz X.P e → i * tsz X.P e + j < ys.size := by
                  intro i j hi hj
                  rw [hyss]
                  have : (i + 1) * tsz X.P e ≤ m * tsz X.P e := Nat.mul_le_mul_right _ (by omega)
                  rw [Nat.add_mul] at this; omega
                obtain ⟨r1, r2⟩ := write_ok hho (l := l) ho2 (o' := .arr m (tsz X.P e) src) (b := bb) (c := c) hBl ⟨m, get, rfl, by omega, fun _ => rfl⟩ (w' := w.setCells bb 0 ys.toList)
                  (setCells_meta _) (fun x hx => setCells_other _ hx) (fun k' hw hB' st => by
                    refine ⟨hsl, trivial, ?_⟩
                    rw [hB']
                    refine ⟨hnc, setArr xs 0 ys.toList, ty, fz, by rw [hw]; exact setCells_heap _ hh2, hz, by rw [setArr_size]; exact hs, fun i j v hi hv => ?_⟩
                    obtain ⟨hj, hr'⟩ := hyr i j v hi hv
                    have hin : ∀ (vs : List Value) (zs : Array Value) (o q : Nat), q < vs.length → o + vs.length ≤ zs.size → (setArr zs o vs).getD (o + q) undef = vs.getD q undef := by
                      intro vs
                      induction vs with
                      | nil => intro zs o q h; simp at h
                      | cons u vs ih =>
                        intro zs o q h hle
                        rw [setArr]
                        cases q with
                        | zero =>
                          rw [setArr_out _ _ _ _ (.inl (by omega))]
                          simp only [List.length_cons] at hle
                          simp [Array.getD_eq_getD_getElem?, Array.getElem?_setIfInBounds, show o < zs.size by omega]
                        | succ q =>
                          simp only [List.length_cons] at h hle
                          have := ih (zs.setIfInBounds o u) (o + 1) q (by omega) (by simpa using by omega)
                          rw [show o + (q + 1) = o + 1 + q by omega, this]
                          simp [List.getD_eq_getElem?_getD]
                    have h9 := hin ys.toList xs 0 (i * tsz X.P e + j) (by rw [Array.length_toList]; exact hrow i j hi hj) hfit
                    rw [Nat.zero_add] at h9
                    rw [h9]
                    have h10 : ys.toList.getD (i * tsz X.P e + j) undef = ys.getD (i * tsz X.P e + j) undef := by
                      simp [List.getD_eq_getElem?_getD, Array.getD_eq_getD_getElem?]
                    rw [h10]
                    exact hr'.step st fun b hb => (hho.own b hb).1)
                refine ⟨.int .i64 (m : Int), _, M, B, hexec ?_, r1, r2, .int _ _⟩
                rw [hq, hcx, ← hgi]
                exact run_copy hu hsz hlen (hys w rfl) (base := some ⟨bb, 0, none⟩) hstc
      · cases h
    · cases h
  · cases h
end Go.Fly
end
section
/- Builtins; calls of functions by their contracts. -/
namespace Go.Fly
open Go

def lenTV (P : Program) (hp : Heap) (t : TypeId) (x : V) : Option (Prop × V) :=
  match P.underlying t, x with
  | some .string, .str s => some (True, .int .i64 s.length)
  | some (.slice _), .sl n _ _ => some (True, .int .i64 n)
  | some (.slice _), .nils => some (True, .int .i64 0)
  | some (.slice _), .msl l off len => match hp l with
    | some (.arr n _ _) => some (off + len = n, .int .i64 len)
    | _ => none
  | some (.array n _), _ => some (True, .int .i64 n)
  | _, _ => none

theorem run_len {P : Program} {k : K} (hk : HeapOk k) {ρ : Operand → Value} {o : Oper} {t : TypeId} {x : Operand} (ho : o.op = .call { callee := .builtin .len, args := #[x], argTypes := #[t] }) {u : V}
    (hx : R k u (ρ x)) {pre : Prop} {r : V} (h : lenTV P k.hp t u = some (pre, r)) (hp : pre) : ∃ cv, (execOp ρ o).run P k.w = .ok (.value cv) k.w ∧ R k r cv := by
  have hexec : ∀ {cv : Value}, (Builtin.len_ #[t] o.type #[ρ x]).run P k.w = .ok cv k.w → (execOp ρ o).run P k.w = .ok (.value cv) k.w := by
    intro cv hc
    simp [execOp, ho, resolve, invoke, builtin, hc]
  unfold lenTV at h
  split at h
  · rename_i s ht
    cases h
    refine ⟨_, hexec ?_, .int _ _⟩
    have hz : (⟨s.toArray⟩ : ByteArray).size = s.length := by simp [ByteArray.size]
    rw [hx.str_inv]
    simp only [Builtin.len_, List.getElem?_toArray, List.getElem?_cons_zero, Sem.run_bind, run_underlying ht, Result.andThen_ok, Sem.run_pure, goInt, hz]
  · rename_i e n sz get ht
    cases h
    refine ⟨_, hexec ?_, .int _ _⟩
    generalize hq : ρ x = cx at hx
    cases hx <;> simp [Builtin.len_, run_underlying ht, goInt]
  · rename_i e ht
    cases h
    refine ⟨_, hexec ?_, .int _ _⟩
    rw [hx.nils_inv]
    simp [Builtin.len_, run_underlying ht, goInt]
  · rename_i e l off len ht
    split at h
    · rename_i n sz get ho2
      cases h
      refine ⟨_, hexec ?_, .int _ _⟩
      generalize hq : ρ x = cx at hx
      cases hx with
      | msl _ _ _ _ h1c hn hh =>
        obtain ⟨q1, q2⟩ := hh _ _ _ ho2
        have hcx := q2 hp
        cases hB : k.B l with
        | none =>
          simp only [hB, mslVal] at hcx
          obtain ⟨g1, g2, g3⟩ := hk.obj l _ ho2
          simp only [hB] at g3
          obtain rfl : len = 0 := by omega
          subst hcx
          simp [Builtin.len_, run_underlying ht, goInt]
        | some bc =>
          simp only [hB, mslVal] at hcx
          subst hcx
          simp [Builtin.len_, run_underlying ht, goInt]
    · cases h
  · rename_i n e ht
    cases h
    exact ⟨_, hexec (by simp [Builtin.len_, run_underlying ht, goInt]), .int _ _⟩
  · cases h

/-- The least or the greatest of integers. -/
def extV (gr : Bool) : List V → Option V
  | .int k a :: rest => rest.foldl (fun acc v => match acc, v with
      | some (.int k' x), .int k'' y => if k' = k'' then some (.int k' (if gr then max x y else min x y)) else none
      | _, _ => none) (some (.int k a))
  | _ => none

theorem extV_none (gr : Bool) : ∀ l : List V, l.foldl (fun acc v => match acc, v with
      | some (.int k' x), .int k'' y => if k' = k'' then some (.int k' (if gr then max x y else min x y)) else none
      | _, _ => none) (none : Option V) = none
  | [] => rfl
  | v :: l => extV_none gr l

theorem run_ext {P : Program} {k : K} {ρ : Operand → Value} {o : Oper} {gr : Bool} {args : Array Operand} {ts : Array TypeId} (ho : o.op = .call { callee := .builtin (if gr then .max else .min), args := args, argTypes := ts })
    {ev : Operand → V} (hev : ∀ y, R k (ev y) (ρ y)) {r : V} (h : extV gr (args.toList.map ev) = some r) : ∃ cv, (execOp ρ o).run P k.w = .ok (.value cv) k.w ∧ R k r cv := by
  have key : ∀ (l : List Operand) (ik : IntKind) (a : Int) (r : V), (l.map ev).foldl (fun acc v => match acc, v with
      | some (.int k' x), .int k'' y => if k' = k'' then some (.int k' (if gr then max x y else min x y)) else none
      | _, _ => none) (some (V.int ik a)) = some r → ∃ n, r = .int ik n ∧ ((l.map ρ).foldlM (if gr then Builtin.max2 else Builtin.min2) (Value.int ik a)).run P k.w = .ok (.int ik n) k.w := by
    intro l
    induction l with
    | nil => intro ik a r h; simp only [List.map_nil, List.foldl_nil, Option.some.injEq] at h; exact ⟨a, h.symm, by simp⟩
    | cons y l ih =>
      intro ik a r h
      have hy := hev y
      simp only [List.map_cons, List.foldl_cons] at h
      cases hv : ev y with
      | int ik' b =>
        rw [hv] at h hy
        by_cases e : ik = ik'
        · subst e
          simp only [if_true] at h
          obtain ⟨n, hn, hr⟩ := ih ik _ r h
          refine ⟨n, hn, ?_⟩
          rw [List.map_cons, List.foldlM_cons, Sem.run_bind, hy.int_inv]
          have : (if gr then Builtin.max2 else Builtin.min2) (Value.int ik a) (Value.int ik b) = pure (.int ik (if gr then max a b else min a b)) := by
            cases gr
            · simp only [Bool.false_eq_true, if_false, Builtin.min2]
              congr 2
              split <;> omega
            · simp only [if_true, Builtin.max2]
              congr 2
              split <;> omega
          rw [this]
          simpa using hr
        · simp only [if_neg e] at h
          rw [extV_none] at h; cases h
      | _ => rw [hv] at h; simp only [extV_none] at h; cases h
  unfold extV at h
  split at h
  · rename_i ik a rest hargs
    cases hl : args.toList with
    | nil => rw [hl] at hargs; simp at hargs
    | cons x l =>
      rw [hl, List.map_cons] at hargs
      simp only [List.cons.injEq] at hargs
      obtain ⟨hxe, rfl⟩ := hargs
      obtain ⟨n, hn, hr⟩ := key l ik a r h
      subst hn
      refine ⟨_, ?_, .int _ _⟩
      have hx := hev x
      rw [hxe] at hx
      have hargs2 : (args.map ρ).toList = ρ x :: l.map ρ := by simp [hl]
      cases gr
      · simp only [Bool.false_eq_true, if_false] at ho hr
        simp only [execOp, ho, resolve, invoke, builtin, Builtin.min_, Sem.run_bind, Sem.run_pure, Result.andThen_ok, hargs2, hx.int_inv, hr]
      · simp only [if_true] at ho hr
        simp only [execOp, ho, resolve, invoke, builtin, Builtin.max_, Sem.run_bind, Sem.run_pure, Result.andThen_ok, hargs2, hx.int_inv, hr]
  · cases h

/-! ### Calls by contract -/

/-- No frozen memory is read through this value. -/
inductive NoSl : V → Prop
  | int (k : IntKind) (n : Int) : NoSl (.int k n)
  | bool (b : Bool) : NoSl (.bool b)
  | flt (k : FloatKind) (n : Nat) : NoSl (.flt k n)
  | cplx (k : FloatKind) (a b : Nat) : NoSl (.cplx k a b)
  | str (s : List UInt8) : NoSl (.str s)
  | nilp : NoSl .nilp
  | nilfn : NoSl .nilfn
  | nils : NoSl .nils
  | msl (l : Loc) (off len : Nat) : NoSl (.msl l off len)
  | agg (cs : List V) (h : ∀ (j : Nat) (v : V), cs[j]? = some v → NoSl v) : NoSl (.agg cs)
  | tup (cs : List V) (h : ∀ (j : Nat) (v : V), cs[j]? = some v → NoSl v) : NoSl (.tup cs)

def NoSlO : Option AObj → Prop
  | none => True
  | some (.cells _) => False
  | some .dead => False
  | some (.raw _) => False
  | some (.arr n _ get) => ∀ (i j : Nat) (v : V), i < n → (get i)[j]? = some v → NoSl v

/-- From the world behind a call to the caller's. -/
theorem R.lift {k k' : K} {rl : Loc} (hnm : ∀ l, k.nm l → l = rl) (hnm' : k'.nm rl ∨ ∀ l, ¬ k.nm l) (hrl : k'.hp rl = k.hp rl) (hB : k'.B rl = k.B rl)
    {v : V} {cv : Value} (hf : (∀ b, b < k.w.heap.size → ¬ k.M b → b < k'.w.heap.size ∧ k'.w.heap[b]? = k.w.heap[b]? ∧ ¬ k'.M b) ∨ NoSl v) (h : R k v cv) : R k' v cv := by
  have hn : ∀ l, k.nm l → k'.nm l := fun l hl => by
    rcases hnm' with q | q
    · exact hnm l hl ▸ q
    · exact absurd hl (q l)
  induction h with
  | top cv => exact .top cv
  | int ik n => exact .int ik n
  | bool b => exact .bool b
  | flt fk n => exact .flt fk n
  | cplx fk a b => exact .cplx fk a b
  | str s => exact .str s
  | nilp => exact .nilp
  | rawp L => exact .rawp L
  | mapp L => exact .mapp L
  | nilfn => exact .nilfn
  | nils => exact .nils
  | ptr l off cv h1 hnl h => exact .ptr l off cv h1 (hn l hnl) fun cs hcs => by rw [hnm l hnl, hrl, ← hnm l hnl] at hcs; rw [h cs hcs, hnm l hnl, hB]
  | eptr l n sz i off cv h1 hnl h =>
      refine .eptr l n sz i off cv h1 (hn l hnl) fun n' sz' get hg => ?_
      rw [hnm l hnl, hrl, ← hnm l hnl] at hg
      obtain ⟨q1, q2, q3⟩ := h n' sz' get hg
      exact ⟨q1, q2, fun e => ⟨(q3 e).1, by rw [(q3 e).2, hnm l hnl, hB]⟩⟩
  | cptr cs b off x hM hb hp hc h ih =>
    rcases hf with hf | hf
    · obtain ⟨q1, q2, q3⟩ := hf b hb hM
      exact .cptr cs b off x q3 q1 hp (fun j hj => by rw [World.cell_eq_of_heap q2]; exact hc j hj) fun j v hv => ih j v hv (.inl hf)
    · cases hf
  | sl0 sz get oa cap => exact .sl0 sz get oa cap
  | sl n sz get b off cap x hM hb hcap hp hl hc h ih =>
    rcases hf with hf | hf
    · obtain ⟨q1, q2, q3⟩ := hf b hb hM
      exact .sl n sz get b off cap x q3 q1 hcap hp hl (fun i j hi hj => by rw [World.cell_eq_of_heap q2]; exact hc i j hi hj) fun i j v hi hv => ih i j v hi hv (.inl hf)
    · cases hf
  | msl l off len cv h1 hnl h =>
      refine .msl l off len cv h1 (hn l hnl) fun n sz get hg => ?_
      rw [hnm l hnl, hrl, ← hnm l hnl] at hg
      obtain ⟨q1, q2⟩ := h n sz get hg
      exact ⟨q1, fun e => by rw [q2 e, hnm l hnl, hB]⟩
  | fn f first cap fs cs h1 h2 hf' hc ihf ihc =>
    rcases hf with hf | hf
    · exact .fn f first cap fs cs h1 h2 (fun j v hv => ihf j v hv (.inl hf)) fun j v hv => ihc j v hv (.inl hf)
    · cases hf
  | agg cs xs hs h ih => exact .agg cs xs hs fun j v hv => ih j v hv (hf.imp id fun q => by cases q with | agg _ q => exact q j v hv)
  | tup cs xs hs h ih => exact .tup cs xs hs fun j v hv => ih j v hv (hf.imp id fun q => by cases q with | tup _ q => exact q j v hv)

def hpOut (hp : Heap) (rl : Loc) : Option AObj → Heap
  | none => hp
  | some o => updH hp rl o

theorem call_combine {w w' : World} {M M' : Nat → Prop} {B : Loc → Option (Nat × Nat)} {hp : Heap} {ck : Nat} (hk : HeapOk (mkK w M B hp ck)) {rl : Loc} {o : Option AObj} (hl : o.isSome = true → hp rl = none ∧ rl.1 = ck)
    {B1 : Option (Nat × Nat)} {val : V} {rv : Value} (hM' : ∀ b, M' b → M b) (hkind : ∀ cs, o ≠ some (.cells cs)) (hkind2 : o ≠ some .dead) (hkind3 : ∀ r, o ≠ some (.raw r))
    (hst : Step (bareK w M') (outK w' M' rl o B1)) (hho : HeapOk (outK w' M' rl o B1)) (hv : R (outK w' M' rl o B1) val rv) (hno : o = none → Pu val) (hns : (∀ b, M b → M' b) ∨ (NoSl val ∧ NoSlO o)) :
    ∃ M2 B2, Step (mkK w M B hp ck) (mkK w' M2 B2 (hpOut hp rl o) ck) ∧ HeapOk (mkK w' M2 B2 (hpOut hp rl o) ck) ∧ R (mkK w' M2 B2 (hpOut hp rl o) ck) val rv := by
  have hkeep : ∀ b, b < w.heap.size → w'.heap[b]? = w.heap[b]? := fun b hb => hst.keep b hb (by rintro ⟨l, o, c, h, _⟩; cases h)
  have hsize : w.heap.size ≤ w'.heap.size := hst.size
  cases o with
  | none =>
    have st : Step (mkK w M B hp ck) (mkK w' M B hp ck) :=
      ⟨hst.os, hst.tape, hst.output, hsize, fun b hb _ => hkeep b hb, fun _ h => .inl h, fun _ _ h => h, fun _ _ _ h => h, fun _ h => h, fun l hl' o' ho' => (Step.refl (mkK w M B hp ck)).names l hl' o' ho'⟩
    refine ⟨M, B, st, ⟨fun b hb => Nat.lt_of_lt_of_le (hk.lt b hb) hsize, fun b hb => ⟨(hk.own b hb).1, Nat.lt_of_lt_of_le (hk.own b hb).2 hsize⟩, hk.nm, hk.inj, fun l o h => ObjOk.step st hk h h rfl fun b c hb => hkeep b (hk.own b ⟨l, o, c, h, hb⟩).2⟩, ?_⟩
    rcases hns with hns | ⟨hns, _⟩
    · refine R.pure (k := outK w' M' rl none B1) (k' := mkK w' M B hp ck) (fun b hb hM => ⟨hb, rfl, fun q => hM (.inl (hns b q))⟩) (hno rfl) hv
    · have hpu := hno rfl
      clear hno
      generalize hkk : outK w' M' rl none B1 = kk at hv
      clear hkk
      induction hv with
      | top cv => exact .top cv
      | int ik n => exact .int ik n
      | bool b => exact .bool b
      | flt fk n => exact .flt fk n
      | cplx fk a b => exact .cplx fk a b
      | str s => exact .str s
      | nilp => exact .nilp
      | rawp L => exact .rawp L
      | mapp L => exact .mapp L
      | nilfn => exact .nilfn
      | nils => exact .nils
      | ptr => cases hns
      | eptr => cases hns
      | cptr => cases hns
      | sl0 sz get oa cap => exact .sl0 _ _ _ _
      | sl => cases hns
      | msl => cases hpu
      | fn => cases hns
      | agg cs xs hs h ih =>
        cases hns with
        | agg _ q => cases hpu with
          | agg _ p => exact .agg _ _ hs fun j v hv => ih j v hv (q j v hv) (p j v hv)
      | tup cs xs hs h ih =>
        cases hns with
        | tup _ q => cases hpu with
          | tup _ p => exact .tup _ _ hs fun j v hv => ih j v hv (q j v hv) (p j v hv)
  | some ob =>
    cases ob with
    | cells cs => exact absurd rfl (hkind cs)
    | dead => exact absurd rfl hkind2
    | raw r => exact absurd rfl (hkind3 r)
    | arr n sz get =>
      obtain ⟨hfree, hck⟩ := hl rfl
      have hnmno : ¬ (mkK w M B hp ck).nm rl := by
        intro h; rcases h with h | ⟨_, h⟩
        · omega
        · simp [hfree] at h
      have hold : ∀ l' : Loc, l' ≠ rl → updH hp rl (.arr n sz get) l' = hp l' ∧ updB B rl B1 l' = B l' := fun l' h => ⟨updH_ne h, updB_ne h⟩
      have hfresh : ∀ b c, B1 = some (b, c) → w.heap.size ≤ b ∧ b < w'.heap.size := by
        intro b c hb
        have ho : (outK w' M' rl (some (.arr n sz get)) B1).owned b := ⟨rl, _, c, if_pos rfl, hb⟩
        refine ⟨?_, (hho.own b ho).2⟩
        rcases hst.own b ho with ⟨l, o, c, h, _⟩ | h
        · cases h
        · exact h
      let M2 : Nat → Prop := fun b => M b ∨ ∃ c, B1 = some (b, c)
      let k2 : K := mkK w' M2 (updB B rl B1) (updH hp rl (.arr n sz get)) ck
      have hown : ∀ b, k2.owned b → (mkK w M B hp ck).owned b ∨ ∃ c, B1 = some (b, c) := by
        rintro b ⟨l', o', c', h1, h2⟩
        by_cases e : l' = rl
        · subst e
          have : updB B l' B1 l' = some (b, c') := h2
          rw [updB_same] at this
          exact .inr ⟨c', this⟩
        · have h3 : updH hp rl (.arr n sz get) l' = some o' := h1
          have h4 : updB B rl B1 l' = some (b, c') := h2
          rw [(hold l' e).1] at h3; rw [(hold l' e).2] at h4
          exact .inl ⟨l', o', c', h3, h4⟩
      have st : Step (mkK w M B hp ck) k2 := by
        refine ⟨hst.os, hst.tape, hst.output, hsize, fun b hb _ => hkeep b hb, fun b h => (hown b h).imp id (fun ⟨c, q⟩ => (hfresh b c q).1), fun b hb h => ?_, fun b _ _ h => .inl h, fun l h => nm_upd h, fun l' hl' o' ho' => ?_⟩
        · rcases h with h | ⟨c, h⟩
          · exact h
          · have h1 := (hfresh b c h).1
            have h2 : b < w.heap.size := hb
            omega
        · have e : l' ≠ rl := fun e => hnmno (e ▸ hl')
          have h3 : updH hp rl (.arr n sz get) l' = some o' := ho'
          rw [(hold l' e).1] at h3
          have q := (Step.refl (mkK w M B hp ck)).names l' hl' o' h3
          cases o' with
          | dead => trivial
          | raw r => trivial
          | cells cs => exact ⟨q.1, (hold l' e).2⟩
          | arr n sz get => obtain ⟨n0, g0, q1, q2, q3⟩ := q; exact ⟨n0, g0, q1, q2, fun _ => (hold l' e).2⟩
      have hobj := hho.obj rl (.arr n sz get) (if_pos rfl)
      obtain ⟨g1, g2, g3⟩ := hobj
      have hlift : ∀ (v : V) (cv : Value), ((∀ b, M b → M' b) ∨ NoSl v) → R (outK w' M' rl (some (.arr n sz get)) B1) v cv → R k2 v cv := by
        intro v cv hq hr
        refine R.lift (k := outK w' M' rl (some (.arr n sz get)) B1) (k' := k2) (rl := rl) (fun l h => h) (.inl (.inr ⟨hck, by show (updH hp rl _ rl).isSome = true; rw [updH_same]; rfl⟩)) ?_ ?_ (hq.imp (fun hmm b hb hM => ⟨hb, rfl, fun q => ?_⟩) id) hr
        · show updH hp rl _ rl = hpAt rl _ rl
          rw [updH_same]; simp [hpAt]
        · show updB B rl B1 rl = B1
          exact updB_same _ _ _
        · rcases q with q | q
          · exact hM (.inl (hmm b q))
          · exact hM (.inr ⟨rfl, q⟩)
      refine ⟨M2, updB B rl B1, st, ⟨fun b hb => ?_, fun b hb => ?_, fun l o h => ?_, fun l1 l2 b c c' o1 o2 h1 h2 h3 h4 => ?_, fun l o h => ?_⟩, hlift val rv (hns.imp id And.left) hv⟩
      · rcases hb with h | ⟨c, h⟩
        · exact Nat.lt_of_lt_of_le (hk.lt b h) hsize
        · exact (hfresh b c h).2
      · rcases hown b hb with h | ⟨c, h⟩
        · exact ⟨.inl (hk.own b h).1, Nat.lt_of_lt_of_le (hk.own b h).2 hsize⟩
        · exact ⟨.inr ⟨c, h⟩, (hfresh b c h).2⟩
      · by_cases e : l = rl
        · subst e; exact .inr ⟨hck, by show (updH hp l _ l).isSome = true; rw [updH_same]; rfl⟩
        · have h3 : updH hp rl (.arr n sz get) l = some o := h
          rw [(hold l e).1] at h3
          exact nm_upd (hk.nm l o h3)
      · have f : ∀ l o b c, updH hp rl (.arr n sz get) l = some o → updB B rl B1 l = some (b, c) → (l = rl ∧ B1 = some (b, c)) ∨ (l ≠ rl ∧ hp l = some o ∧ B l = some (b, c)) := by
          intro l o b c p q
          by_cases e : l = rl
          · subst e; rw [updB_same] at q; exact .inl ⟨rfl, q⟩
          · rw [(hold l e).1] at p; rw [(hold l e).2] at q; exact .inr ⟨e, p, q⟩
        rcases f l1 o1 b c h1 h3 with ⟨rfl, p1⟩ | ⟨e1, p1, p2⟩ <;> rcases f l2 o2 b c' h2 h4 with ⟨rfl, q1⟩ | ⟨e2, q1, q2⟩
        · rfl
        · have a1 := (hfresh b c p1).1
          have a2 : b < w.heap.size := (hk.own b ⟨l2, o2, c', q1, q2⟩).2
          omega
        · have a1 := (hfresh b c' q1).1
          have a2 : b < w.heap.size := (hk.own b ⟨l1, o1, c, p1, p2⟩).2
          omega
        · exact hk.inj l1 l2 b c c' o1 o2 p1 q1 p2 q2
      · by_cases e : l = rl
        · subst e
          have q : updH hp l (.arr n sz get) l = some o := h
          rw [updH_same] at q
          cases q
          refine ⟨g1, g2, ?_⟩
          have hB2 : k2.B l = (outK w' M' l (some (.arr n sz get)) B1).B l := updB_same _ _ _
          show match k2.B l with
            | none => n = 0
            | some (b, c) => n ≤ c ∧ ∃ xs ty fz, k2.w.heap[b]? = some (.cells xs ty fz) ∧ (∀ o : Nat, ¬ (fz.1 ≤ o ∧ o < fz.2)) ∧ xs.size = c * sz ∧
                ∀ (i j : Nat) (v : V), i < n → (get i)[j]? = some v → R k2 v (xs.getD (i * sz + j) undef)
          rw [hB2]
          cases hB1 : (outK w' M' l (some (.arr n sz get)) B1).B l with
          | none => simpa [hB1] using g3
          | some bc =>
            obtain ⟨b, c⟩ := bc
            simp only [hB1] at g3
            obtain ⟨a1, xs, ty, fz, a2, a3, a4, a5⟩ := g3
            exact ⟨a1, xs, ty, fz, a2, a3, a4, fun i j v hi hv => hlift v _ (hns.imp id fun q => q.2 i j v hi hv) (a5 i j v hi hv)⟩
        · have h3 : updH hp rl (.arr n sz get) l = some o := h
          rw [(hold l e).1] at h3
          exact ObjOk.step st hk h3 h (hold l e).2 fun b c hb => hkeep b (hk.own b ⟨l, o, c, h3, hb⟩).2
/-! ### Objects that are known as they are: iterators, records of loops -/

/-- Names with a block's number are of such objects. -/
def RawNames (hp : Heap) : Prop := ∀ (L : Nat) (o : AObj), hp (0, L) = some o → ∃ r, o = .raw r

theorem newRaw_ok {w : World} {M : Nat → Prop} {B : Loc → Option (Nat × Nat)} {hp : Heap} {ck : Nat} (hk : HeapOk (mkK w M B hp ck)) (hfree : RawNames hp) (ob : Obj) :
    hp (0, w.heap.size) = none ∧ Step (mkK w M B hp ck) (mkK (w.alloc ob) (fun b => M b ∨ b = w.heap.size) (updB B (0, w.heap.size) (some (w.heap.size, 0))) (updH hp (0, w.heap.size) (.raw ob)) ck) ∧
      HeapOk (mkK (w.alloc ob) (fun b => M b ∨ b = w.heap.size) (updB B (0, w.heap.size) (some (w.heap.size, 0))) (updH hp (0, w.heap.size) (.raw ob)) ck) := by
  obtain ⟨L, hL0⟩ : ∃ L, L = w.heap.size := ⟨_, rfl⟩
  rw [← hL0]
  have hnone : hp (0, L) = none := by
    cases q : hp (0, L) with
    | none => rfl
    | some o =>
      obtain ⟨r, rfl⟩ := hfree L o q
      obtain ⟨h1, h2⟩ := hk.obj (0, L) _ q
      have := lt_of_heap h2
      have h3 : L < w.heap.size := this
      omega
  have hsz : (w.alloc ob).heap.size = w.heap.size + 1 := World.size_alloc w _
  have hL : (w.alloc ob).heap[L]? = some ob := by rw [hL0]; exact World.alloc_heap_new w ob
  have hold : ∀ b, b < w.heap.size → (w.alloc ob).heap[b]? = w.heap[b]? := fun b hb => heap_push_lt hb
  generalize hk1 : mkK (w.alloc ob) (fun b => M b ∨ b = L) (updB B (0, L) (some (L, 0))) (updH hp (0, L) (.raw ob)) ck = k1
  have e1 : k1.w = w.alloc ob := by rw [← hk1]; rfl
  have e2 : k1.M = fun b => M b ∨ b = L := by rw [← hk1]; rfl
  have e3 : k1.B = updB B (0, L) (some (L, 0)) := by rw [← hk1]; rfl
  have e4 : k1.hp = updH hp (0, L) (.raw ob) := by rw [← hk1]; rfl
  have e5 : k1.nm = nmOf ck (updH hp (0, L) (.raw ob)) := by rw [← hk1]; rfl
  have hne : ∀ l' : Loc, l' ≠ (0, L) → k1.hp l' = hp l' ∧ k1.B l' = B l' := fun l' h => by rw [e3, e4]; exact ⟨updH_ne h, updB_ne h⟩
  have hat : k1.hp (0, L) = some (.raw ob) ∧ k1.B (0, L) = some (L, 0) := by rw [e3, e4]; exact ⟨updH_same _ _ _, updB_same _ _ _⟩
  have hown : ∀ b, k1.owned b → (mkK w M B hp ck).owned b ∨ b = L := by
    rintro b ⟨l', o', c', h1, h2⟩
    by_cases e : l' = (0, L)
    · subst e
      rw [hat.2] at h2
      cases h2
      exact .inr rfl
    · rw [(hne l' e).1] at h1; rw [(hne l' e).2] at h2
      exact .inl ⟨l', o', c', h1, h2⟩
  have st1 : Step (mkK w M B hp ck) k1 := by
    refine ⟨by rw [e1]; rfl, by rw [e1]; rfl, by rw [e1]; rfl, by rw [e1, hsz]; exact Nat.le_succ _, fun b hb _ => by rw [e1]; exact hold b hb, fun b hb' => ?_, fun b hb' hm => ?_, fun b _ _ hm => by rw [e2]; exact .inl hm, fun l' hl' => by rw [e5]; exact nm_upd hl', fun l' hl' o' ho' => ?_⟩
    · rcases hown b hb' with q | q
      · exact .inl q
      · exact .inr (by show w.heap.size ≤ b; omega)
    · have hb2 : b < w.heap.size := hb'
      rw [e2] at hm
      rcases hm with q | q
      · exact q
      · omega
    · by_cases e : l' = (0, L)
      · subst e
        rw [hat.1] at ho'
        cases ho'
        trivial
      · have h3 := ho'
        rw [(hne l' e).1] at h3
        have q := (Step.refl (mkK w M B hp ck)).names l' hl' o' h3
        cases o' with
        | dead => trivial
        | raw r => trivial
        | cells cs => exact ⟨q.1, (hne l' e).2⟩
        | arr n sz get => obtain ⟨n0, g0, q1, q2, q3⟩ := q; exact ⟨n0, g0, q1, q2, fun _ => (hne l' e).2⟩
  refine ⟨hnone, st1, ⟨fun b hb' => ?_, fun b hb' => ?_, fun l' o' h1 => ?_, fun l1 l2 b c1 c2 o1 o2 h1 h2 h3 h4 => ?_, fun l' o' h1 => ?_⟩⟩
  · rw [e1, hsz]
    rw [e2] at hb'
    rcases hb' with q | q
    · have : b < w.heap.size := hk.lt b q
      omega
    · omega
  · rw [e1, e2, hsz]
    rcases hown b hb' with q | q
    · refine ⟨.inl (hk.own b q).1, ?_⟩
      have : b < w.heap.size := (hk.own b q).2
      omega
    · exact ⟨.inr q, by omega⟩
  · rw [e5]
    by_cases e : l' = (0, L)
    · subst e
      by_cases z : ck = 0
      · exact .inr ⟨by show 0 = ck; omega, by rw [updH_same]; rfl⟩
      · exact .inl (by show 0 < ck; omega)
    · rw [(hne l' e).1] at h1
      exact nm_upd (hk.nm l' o' h1)
  · have f : ∀ l' o' c', l' ≠ (0, L) → k1.hp l' = some o' → k1.B l' = some (b, c') → b < w.heap.size ∧ hp l' = some o' ∧ B l' = some (b, c') := by
      intro l' o' c' e g1 g2
      rw [(hne l' e).1] at g1; rw [(hne l' e).2] at g2
      exact ⟨(hk.own b ⟨l', o', c', g1, g2⟩).2, g1, g2⟩
    by_cases q1 : l1 = (0, L)
    · by_cases q2 : l2 = (0, L)
      · rw [q1, q2]
      · have := f l2 o2 c2 q2 h2 h4
        subst q1
        rw [hat.2] at h3
        cases h3
        omega
    · by_cases q2 : l2 = (0, L)
      · have := f l1 o1 c1 q1 h1 h3
        subst q2
        rw [hat.2] at h4
        cases h4
        omega
      · obtain ⟨_, a1, a2⟩ := f l1 o1 c1 q1 h1 h3
        obtain ⟨_, b1, b2⟩ := f l2 o2 c2 q2 h2 h4
        exact hk.inj l1 l2 b c1 c2 o1 o2 a1 b1 a2 b2
  · by_cases e : l' = (0, L)
    · subst e
      rw [hat.1] at h1
      cases h1
      exact ⟨hat.2, by rw [e1]; exact hL⟩
    · have h3 := h1
      rw [(hne l' e).1] at h3
      exact ObjOk.step st1 hk h3 h1 (hne l' e).2 fun b c hb' => by rw [e1]; exact hold b (hk.own b ⟨l', o', c, h3, hb'⟩).2

theorem putRaw_ok {w : World} {M : Nat → Prop} {B : Loc → Option (Nat × Nat)} {hp : Heap} {ck : Nat} (hk : HeapOk (mkK w M B hp ck)) {L : Nat} {r : Obj} (hl : hp (0, L) = some (.raw r)) (r' : Obj) :
    w.heap[L]? = some r ∧ Step (mkK w M B hp ck) (mkK (w.putObj L r') M B (updH hp (0, L) (.raw r')) ck) ∧ HeapOk (mkK (w.putObj L r') M B (updH hp (0, L) (.raw r')) ck) := by
  obtain ⟨hB, hh⟩ := hk.obj (0, L) _ hl
  have hlt : L < w.heap.size := lt_of_heap hh
  obtain ⟨q1, q2⟩ := write_ok hk (l := (0, L)) hl (o' := .raw r') (b := L) (c := 0) hB trivial (w' := w.putObj L r') ⟨rfl, rfl, rfl, World.putObj_size⟩ (fun x hx => World.putObj_heap_other hx)
    (fun k' hw hB' st => ⟨hB', by rw [hw]; exact World.putObj_heap_same hlt⟩)
  exact ⟨hh, q1, q2⟩

/-- A range over a string. -/
theorem range_op_ok {X : Cx} (hX : X.Ok) {o : Oper} {t : TypeId} {x : Operand} {s : St} {Kn : St → Prop} (ho : o.op = .range t x) (ht : X.P.underlying t = some .string) {str : List UInt8} (hx : ev X s x = .str str) (hfree : RawNames s.hp)
    (hK : ∀ L, s.hp (0, L) = none → Kn ⟨s.ck, putTm s.tm o.dst (.rawp L), updH s.hp (0, L) (.raw (.stringIter ⟨str.toArray⟩ 0))⟩) : OpOk X o s Kn := by
  intro a w ⟨M, B, hst, hho, htm, hmk⟩ next Q hn
  have hev := ev_R hX (ds := a.defers) hst htm x
  rw [hx] at hev
  obtain ⟨q1, q2, q3⟩ := newRaw_ok hho hfree (.stringIter ⟨str.toArray⟩ 0)
  refine wpIn_of_upon (by simp [ho]) ?_
  have hrun : (execOp a.eval o).run X.P w = .ok (.value (.pointer (some ⟨w.heap.size, 0, none⟩))) (w.alloc (.stringIter ⟨str.toArray⟩ 0)) := by
    simp [execOp, ho, hev.str_inv, run_range_string w t _ ht, World.iter]
  rw [hrun]
  have hown : ∀ b, (mkK w M B s.hp s.ck).owned b → (mkK w M B s.hp s.ck).M b := fun b hb => (hho.own b hb).1
  refine hn _ _ _ (hK w.heap.size q1) ⟨_, _, hst.trans q2, q3, (htm.step q2 hown).put (.rawp _), ?_⟩
  have : (a.put o.dst (.pointer (some ⟨w.heap.size, 0, none⟩))).defers = a.defers := by cases o.dst <;> rfl
  rw [this]
  exact hmk.step q2

theorem next_op_ok {X : Cx} (hX : X.Ok) {o : Oper} {x : Operand} {s : St} {Kn : St → Prop} (ho : o.op = .next x true) {L : Nat} (hx : ev X s x = .rawp L) {b : ByteArray} {pos : Nat} (hl : s.hp (0, L) = some (.raw (.stringIter b pos)))
    (h1 : pos < b.size → Kn ⟨s.ck, putTm s.tm o.dst (.tup [.bool true, .int .i64 pos, .int .i32 (Utf8.decode b pos).1]), updH s.hp (0, L) (.raw (.stringIter b (pos + (Utf8.decode b pos).2)))⟩)
    (h2 : b.size ≤ pos → Kn ⟨s.ck, putTm s.tm o.dst (.tup [.bool false]), s.hp⟩) : OpOk X o s Kn := by
  intro a w ⟨M, B, hst, hho, htm, hmk⟩ next Q hn
  have hev := ev_R hX (ds := a.defers) hst htm x
  rw [hx] at hev
  have hcv : a.eval x = .pointer (some ⟨L, 0, none⟩) := by
    have h2 : R (mkK w M B s.hp s.ck) (.rawp L) (a.eval x) := hev
    generalize a.eval x = cv at h2
    cases h2; rfl
  have hown : ∀ b, (mkK w M B s.hp s.ck).owned b → (mkK w M B s.hp s.ck).M b := fun b hb => (hho.own b hb).1
  obtain ⟨hB, hh⟩ := hho.obj (0, L) _ hl
  have hh' : w.heap[L]? = some (.stringIter b pos) := hh
  refine wpIn_of_upon (by simp [ho]) ?_
  by_cases hlt : pos < b.size
  · obtain ⟨g1, g2, g3⟩ := putRaw_ok hho hl (.stringIter b (pos + (Utf8.decode b pos).2))
    have hrun : (execOp a.eval o).run X.P w = .ok (.value (.tuple #[.bool true, .int .i64 pos, .int .i32 (Utf8.decode b pos).1])) (w.putObj L (.stringIter b (pos + (Utf8.decode b pos).2))) := by
      simp [execOp, ho, hcv, Instr.next, getObj, setObj, Sem.run, hh', hlt, goInt, World.putObj]
    rw [hrun]
    refine hn _ _ _ (h1 hlt) ⟨_, _, hst.trans g2, g3, (htm.step g2 hown).put (.tup _ _ rfl fun j v hv => ?_), ?_⟩
    · rcases j with _ | _ | _ | j <;> simp at hv
      · subst hv; exact .bool _
      · subst hv; exact .int _ _
      · subst hv; exact .int _ _
    · have : (a.put o.dst (.tuple #[.bool true, .int .i64 pos, .int .i32 (Utf8.decode b pos).1])).defers = a.defers := by cases o.dst <;> rfl
      rw [this]
      exact hmk.step g2
  · have hrun : (execOp a.eval o).run X.P w = .ok (.value (.tuple #[.bool false])) w := by
      simp [execOp, ho, hcv, Instr.next, getObj, Sem.run, hh', hlt]
    rw [hrun]
    refine hn _ _ _ (h2 (Nat.le_of_not_lt hlt)) ⟨M, B, hst, hho, htm.put (.tup _ _ rfl fun j v hv => ?_), ?_⟩
    · rcases j with _ | j <;> simp at hv
      subst hv; exact .bool _
    · have : (a.put o.dst (.tuple #[.bool false])).defers = a.defers := by cases o.dst <;> rfl
      rw [this]
      exact hmk

/-! ### Maps whose keys are strings -/

def lookV (P : Program) (hp : Heap) (t : TypeId) (x k : V) : Option (Prop × V) :=
  match P.underlying t, x, k with
  | some (.map kt et), .mapp L, .str s =>
    match P.underlying kt, hp (0, L) with
    | some .string, some (.raw (.map es _)) =>
      match Instr.findNow .string (.string ⟨s.toArray⟩) es.toList 0 with
      | some (some (_, v)) => some (True, ofCell v)
      | some none => match tzero P et with
        | some z => some (True, z)
        | none => none
      | none => none
    | _, _ => none
  | _, _, _ => none

theorem run_checkKey {P : Program} {w : World} {e : Bool} {kt : TypeId} {v : Value} (h : P.underlying kt = some .string) : (Instr.checkKey e 10000 kt v).run P w = .ok () w := by
  rw [show (10000 : Nat) = 9999 + 1 from rfl, Instr.checkKey]
  simp [underlying, Sem.run, h]
theorem run_findKey {P : Program} {w : World} {kt : TypeId} {v : Value} {es : List MapEntry} {r : Option (Nat × Value)} (h : P.underlying kt = some .string) (hr : Instr.findNow .string v es 0 = some r) : (Instr.findKey kt v es).run P w = .ok r w := by
  simp [Instr.findKey, underlying, Sem.run, h, hr]

theorem run_lookup {P : Program} {k : K} (hk : HeapOk k) {ρ : Operand → Value} {o : Oper} {t : TypeId} {x ix : Operand} (ho : o.op = .lookup t x ix false) {u i : V} (hx : R k u (ρ x)) (hi : R k i (ρ ix)) {p : Prop} {r : V} (h : lookV P k.hp t u i = some (p, r)) :
    ∃ cv, (execOp ρ o).run P k.w = .ok (.value cv) k.w ∧ R k r cv := by
  unfold lookV at h
  split at h
  · rename_i kt et L s ht
    split at h
    · rename_i es c hkt hl
      obtain ⟨hB, hh⟩ := hk.obj (0, L) _ hl
      have hh' : k.w.heap[L]? = some (.map es c) := hh
      have e1 := hx.mapp_inv
      have e2 := hi.str_inv
      have hg : (getObj L).run P k.w = .ok (.map es c) k.w := by simp [getObj, Sem.run, hh']
      have hu : (underlying t).run P k.w = .ok (.map kt et) k.w := by simp [underlying, Sem.run, ht]
      split at h
      · rename_i j v hf
        cases h
        exact ⟨v, by simp only [execOp, ho, e1, e2, Instr.lookup, Sem.run_bind, hu, Result.andThen_ok, hg, Sem.run_pure, run_checkKey hkt, run_findKey hkt hf, if_false, Bool.false_eq_true], ofCell_R k v⟩
      · rename_i hf
        cases hz : tzero P et with
        | none => rw [hz] at h; cases h
        | some z =>
          rw [hz] at h
          cases h
          obtain ⟨cz, h1, h2, -, -⟩ := run_zero (k := k) hz k.w
          exact ⟨cz, by simp only [execOp, ho, e1, e2, Instr.lookup, Sem.run_bind, hu, Result.andThen_ok, hg, Sem.run_pure, run_checkKey hkt, run_findKey hkt hf, h1, if_false, Bool.false_eq_true], h2⟩
      · cases h
    · cases h
  · cases h

def toVal : V → Option Value
  | .bool b => some (.bool b)
  | .int k n => some (.int k n)
  | .str s => some (.string ⟨s.toArray⟩)
  | _ => none
theorem toVal_R {k : K} {v : V} {x cv : Value} (h : toVal v = some x) (hR : R k v cv) : cv = x := by
  unfold toVal at h
  split at h
  · cases h; exact hR.bool_inv
  · cases h; exact hR.int_inv
  · cases h; exact hR.str_inv
  · cases h

/-- A key that is not there yet. -/
def mupR (P : Program) (hp : Heap) (t : TypeId) (m k x : V) : Option (Prop × Heap) :=
  match P.underlying t, m, k, toVal x with
  | some (.map kt _), .mapp L, .str s, some xv =>
    match P.underlying kt, hp (0, L) with
    | some .string, some (.raw (.map es c)) =>
      match Instr.findNow .string (.string ⟨s.toArray⟩) es.toList 0 with
      | some none => some (True, updH hp (0, L) (.raw (.map (es.push ⟨.string ⟨s.toArray⟩, xv, c⟩) (c + 1))))
      | _ => none
    | _, _ => none
  | _, _, _, _ => none

theorem mapUpdate_op_ok {X : Cx} (hX : X.Ok) {o : Oper} {t : TypeId} {m ki x : Operand} {s : St} {Kn : St → Prop} (ho : o.op = .mapUpdate t m ki x) {p : Prop} {hp' : Heap} (h : mupR X.P s.hp t (ev X s m) (ev X s ki) (ev X s x) = some (p, hp'))
    (hK : Kn ⟨s.ck, putTm s.tm o.dst .top, hp'⟩) : OpOk X o s Kn := by
  refine OpOk.of_skip hp' (by simp [ho]) (fun M B a w hst hho htm => ?_) hK
  have hev : ∀ y, R (mkK w M B s.hp s.ck) (ev X s y) (a.eval y) := fun y => ev_R hX (ds := a.defers) hst htm y
  unfold mupR at h
  split at h
  · rename_i kt et L str xv ht hm hki hxv
    split at h
    · rename_i es c hkt hl
      split at h
      · rename_i hf
        cases h
        obtain ⟨hh, g2, g3⟩ := putRaw_ok hho hl (.map (es.push ⟨.string ⟨str.toArray⟩, xv, c⟩) (c + 1))
        have e1 := (hm ▸ hev m).mapp_inv
        have e2 := (hki ▸ hev ki).str_inv
        have e3 := toVal_R hxv (hev x)
        have hg : (getObj L).run X.P w = .ok (.map es c) w := by simp [getObj, Sem.run, hh]
        have hu : (underlying t).run X.P w = .ok (.map kt et) w := by simp [underlying, Sem.run, ht]
        have hs : (setObj L (.map (es.push ⟨.string ⟨str.toArray⟩, xv, c⟩) (c + 1))).run X.P w = .ok () (w.putObj L (.map (es.push ⟨.string ⟨str.toArray⟩, xv, c⟩) (c + 1))) := by simp [setObj, Sem.run, World.putObj, show w.heap[L]? = some (.map es c) from hh]
        refine ⟨_, M, B, ?_, g2, g3⟩
        simp only [execOp, ho, e1, e2, e3, Instr.mapUpdate, Sem.run_bind, hu, Result.andThen_ok, hg, Sem.run_pure, run_checkKey hkt, run_findKey hkt hf, hs]
      · cases h
    · cases h
  · cases h

theorem makeMap_op_ok {X : Cx} (hX : X.Ok) {o : Oper} {t : TypeId} {s : St} {Kn : St → Prop} (ho : o.op = .makeMap t none) (hfree : RawNames s.hp)
    (hK : ∀ L, s.hp (0, L) = none → Kn ⟨s.ck, putTm s.tm o.dst (.mapp L), updH s.hp (0, L) (.raw (.map #[] 0))⟩) : OpOk X o s Kn := by
  intro a w ⟨M, B, hst, hho, htm, hmk⟩ next Q hn
  obtain ⟨q1, q2, q3⟩ := newRaw_ok hho hfree (.map #[] 0)
  refine wpIn_of_upon (by simp [ho]) ?_
  have hrun : (execOp a.eval o).run X.P w = .ok (.value (.map (some w.heap.size))) (w.alloc (.map #[] 0)) := by
    simp [execOp, ho, Instr.makeMap, newObj]
    simp [Sem.run]
  rw [hrun]
  have hown : ∀ b, (mkK w M B s.hp s.ck).owned b → (mkK w M B s.hp s.ck).M b := fun b hb => (hho.own b hb).1
  refine hn _ _ _ (hK w.heap.size q1) ⟨_, _, hst.trans q2, q3, (htm.step q2 hown).put (.mapp _), ?_⟩
  have : (a.put o.dst (.map (some w.heap.size))).defers = a.defers := by cases o.dst <;> rfl
  rw [this]
  exact hmk.step q2
end Go.Fly
end
section
/- Calls; operations put together; regions; code; a function's contract out of its body. -/
namespace Go.Fly
open Go

def Enters (P : Program) (f : FuncId) : Prop := ∀ (args : Array Value) (w : World), (callFunc f args).run P w = .ok (.enter f args) w

theorem enters_of {P : Program} {f : FuncId} {fn : Func} (hf : P.funcs[f]? = some fn) (hb : fn.body.isSome = true) (hn : (fn.name == "runtime.NumGoroutine") = false) : Enters P f := by
  intro args w
  have hb' : fn.body.isNone = false := by cases h : fn.body <;> simp_all
  simp only [callFunc, Sem.run_bind, run_program, Result.andThen_ok, hf, hn, hb', Bool.false_eq_true, if_false, Sem.run_pure, Sem.run_ite]

/-- A call of a function, whatever it does to what the caller holds. -/
def CallT (X : Cx) (hp : Heap) (ck : Nat) (f : FuncId) (args : List V) (Kn : V → Heap → Nat → Prop) : Prop :=
  ∀ (w : World) (M : Nat → Prop) (B : Loc → Option (Nat × Nat)) (vs : Array Value), Step X.k0 (mkK w M B hp ck) → HeapOk (mkK w M B hp ck) → ArgsR (mkK w M B hp ck) args vs →
    Calls X.P f vs w fun e w' => ∃ rv r hp' ck' M' B', Kn r hp' ck' ∧ e = .returned rv ∧ Step (mkK w M B hp ck) (mkK w' M' B' hp' ck') ∧ HeapOk (mkK w' M' B' hp' ck') ∧ R (mkK w' M' B' hp' ck') r rv

noncomputable def callPre (s : St) (dst : Option Tmp) (C : Contract) (args : List V) : Prop :=
  (C (s.ck, dst.getD 0) (args.map (frz 5 s.hp))).pre ∧
  ((∀ a ∈ args, Pu a) ∨ (NoSl (C (s.ck, dst.getD 0) (args.map (frz 5 s.hp))).val ∧ NoSlO (C (s.ck, dst.getD 0) (args.map (frz 5 s.hp))).obj)) ∧
  match (C (s.ck, dst.getD 0) (args.map (frz 5 s.hp))).obj with
  | none => Pu (C (s.ck, dst.getD 0) (args.map (frz 5 s.hp))).val
  | some (.cells _) => False
  | some .dead => False
  | some (.raw _) => False
  | some (.arr _ _ _) => s.hp (s.ck, dst.getD 0) = none

theorem getD_args {k : K} {args : List V} {vs : Array Value} (h : ArgsR k args vs) : ∀ (j : Nat) (v : V), args[j]? = some v → R k v (vs.getD j undef) := h.2

theorem callT_of_holds {X : Cx} (hX : X.Ok) {s : St} {dst : Option Tmp} {f : FuncId} {C : Contract} (hf : X.Γ f = some C) {args : List V} {Kn : V → Heap → Nat → Prop} (hpre : callPre s dst C args)
    (hK : Kn (C (s.ck, dst.getD 0) (args.map (frz 5 s.hp))).val (hpOut s.hp (s.ck, dst.getD 0) (C (s.ck, dst.getD 0) (args.map (frz 5 s.hp))).obj) s.ck) : CallT X s.hp s.ck f args Kn := by
  intro w M B vs hst hho hargs
  obtain ⟨hp1, hp2, hp3⟩ := hpre
  generalize hO : C (s.ck, dst.getD 0) (args.map (frz 5 s.hp)) = out at hp1 hp2 hp3 hK
  -- which blocks the callee must leave out of account
  let M' : Nat → Prop := fun b => M b ∧ (¬ (mkK w M B s.hp s.ck).owned b ∨ ∀ a ∈ args, Pu a)
  have hM' : ∀ b, M' b → M b := fun b h => h.1
  have hG : ∀ g, R (bareK w M') (X.G g) (.pointer (some ⟨g, 0, none⟩)) := by
    intro g
    have h0 := (hX.G0 g).step hst hX.own
    rcases hX.G g with hp | ht
    · exact R.pure (k := mkK w M B s.hp s.ck) (k' := bareK w M') (fun b hb hM => ⟨hb, rfl, fun q => hM (hM' b q)⟩) hp h0
    · rw [ht]; exact .top _
  have hfr : ArgsR (bareK w M') (args.map (frz 5 s.hp)) vs ∧ ∀ a ∈ args.map (frz 5 s.hp), Pu a := by
    by_cases hall : ∀ a ∈ args, Pu a
    · have he : args.map (frz 5 s.hp) = args := by
        refine (List.map_congr_left fun a ha => ?_).trans (List.map_id args)
        simp only [frz, if_pos (hall a ha)]; rfl
      rw [he]
      exact ⟨⟨hargs.1, fun j v hv => R.pure (k := mkK w M B s.hp s.ck) (k' := bareK w M') (fun b hb hM => ⟨hb, rfl, fun q => hM (hM' b q)⟩) (hall v (mem_of_get hv)) (hargs.2 j v hv)⟩, hall⟩
    · have key : ∀ {v : V} {cv : Value}, R (mkK w M B s.hp s.ck) v cv → Pu (frz 5 s.hp v) ∧ R (bareK w M') (frz 5 s.hp v) cv := fun {v cv} h =>
        frz_R (k' := bareK w M') hho (fun b hb hc => ⟨hb, rfl, fun q => by
          rcases hc with hc | hc
          · exact hc q.1
          · rcases q.2 with q2 | q2
            · exact q2 hc
            · exact hall q2⟩) 5 h
      refine ⟨⟨by simpa using hargs.1, fun j v hv => ?_⟩, fun a ha => ?_⟩
      · obtain ⟨x, hx, rfl⟩ := map_getElem? hv
        exact (key (hargs.2 j x hx)).2
      · obtain ⟨x, hx, rfl⟩ := List.mem_map.1 ha
        obtain ⟨j, hj⟩ := List.mem_iff_getElem?.1 hx
        exact (key (hargs.2 j x hj)).1
  have hH := hX.Γ f C hf (s.ck, dst.getD 0) (args.map (frz 5 s.hp)) w M' vs (fun b hb => hho.lt b hb.1) hG hfr.2 hfr.1 (by rw [hO]; exact hp1)
  rw [hO] at hH
  refine hH.mono fun e w' ⟨rv, B1, he, h1, h2, h3⟩ => ?_
  have hns : (∀ b, M b → M' b) ∨ (NoSl out.val ∧ NoSlO out.obj) := hp2.imp (fun q b hb => ⟨hb, .inr q⟩) id
  have hc := call_combine (w := w) (w' := w') (M := M) (M' := M') hho (rl := (s.ck, dst.getD 0)) (o := out.obj) (fun hs => by
      cases ho : out.obj with
      | none => rw [ho] at hs; cases hs
      | some ob =>
        cases ob with
        | cells cs => rw [ho] at hp3; exact hp3.elim
        | dead => rw [ho] at hp3; exact hp3.elim
        | raw r => rw [ho] at hp3; exact hp3.elim
        | arr n sz get => rw [ho] at hp3; exact ⟨hp3, rfl⟩) hM' (fun cs ho => by rw [ho] at hp3; exact hp3) (fun ho => by rw [ho] at hp3; exact hp3) (fun r ho => by rw [ho] at hp3; exact hp3) h1 h2 h3 (fun ho => by rw [ho] at hp3; exact hp3) hns
  obtain ⟨M2, B2, g1, g2, g3⟩ := hc
  exact ⟨rv, _, _, _, M2, B2, hK, he, g1, g2, g3⟩

theorem call_ok {X : Cx} (hX : X.Ok) {o : Oper} {c : Call} {x : Operand} {s : St} {Kn : St → Prop} (ho : o.op = .call c) (hc : c.callee = .value x) {f : FuncId} {first cap : List V} (hx : ev X s x = .fn (.func f) first cap) (hen : Enters X.P f)
    (h : CallT X s.hp s.ck f (first ++ c.args.toList.map (ev X s) ++ cap) (fun r hp' ck' => Kn ⟨ck', putTm s.tm o.dst r, hp'⟩)) : OpOk X o s Kn := by
  intro a w ⟨M, B, hst, hho, htm, hmk⟩ next Q hn
  have hev : ∀ y, R (mkK w M B s.hp s.ck) (ev X s y) (a.eval y) := fun y => ev_R hX (ds := a.defers) hst htm y
  have hfx := hev x
  rw [hx] at hfx
  obtain ⟨fs, cs, hfv, hfs, hcs, hfr, hcr⟩ := hfx.fn_inv
  refine wpIn_of_upon (by simp [ho]) ?_
  have hexec : (execOp a.eval o).run X.P w = .ok (.enter f (fs ++ c.args.map a.eval ++ cs)) w := by
    simp only [execOp, ho, resolve, hc, hfv, Deferred.ofValue, Sem.run_bind, Sem.run_pure, Result.andThen_ok, invoke, hen _ w]
  rw [hexec]
  obtain ⟨hm1, hm2⟩ := map_R hev c.args
  have happ : ∀ {l1 l2 : List V} {v1 v2 : Array Value}, ArgsR (mkK w M B s.hp s.ck) l1 v1 → ArgsR (mkK w M B s.hp s.ck) l2 v2 → ArgsR (mkK w M B s.hp s.ck) (l1 ++ l2) (v1 ++ v2) := by
    intro l1 l2 v1 v2 h1 h2
    refine ⟨by simp [h1.1, h2.1], fun j v hv => ?_⟩
    by_cases hj : j < l1.length
    · rw [List.getElem?_append_left hj] at hv
      have := h1.2 j v hv
      simp only [Array.getD_eq_getD_getElem?] at this ⊢
      rwa [Array.getElem?_append_left (by rw [h1.1]; exact hj)]
    · rw [List.getElem?_append_right (by omega)] at hv
      have := h2.2 _ v hv
      simp only [Array.getD_eq_getD_getElem?] at this ⊢
      rw [Array.getElem?_append_right (by rw [h1.1]; omega), h1.1]
      exact this
  have hargs := happ (happ ⟨hfs, hfr⟩ ⟨hm1, hm2⟩) ⟨hcs, hcr⟩
  have hcall := h w M B _ hst hho hargs
  refine ⟨fun h => by simp [WF] at h, callsIn_WF.2 (hcall.mono fun e w' ⟨rv, r, hp', ck', M', B', hk, he, h1, h2, h3⟩ => ?_)⟩
  subst he
  have hown : ∀ b, (mkK w M B s.hp s.ck).owned b → (mkK w M B s.hp s.ck).M b := fun b hb => (hho.own b hb).1
  refine hn _ _ _ hk ⟨M', B', hst.trans h1, h2, (htm.step h1 hown).put h3, ?_⟩
  have : (a.put o.dst rv).defers = a.defers := by cases o.dst <;> rfl
  rw [this]
  exact hmk.step h1

/-! ### One operation -/

def finP (s : St) (dst : Option Tmp) (r : Option (Prop × V)) (Kn : St → Prop) : Prop :=
  match r with
  | some (p, v) => p ∧ Kn ⟨s.ck, putTm s.tm dst v, s.hp⟩
  | none => False

def finV (s : St) (dst : Option Tmp) (r : Option V) (Kn : St → Prop) : Prop :=
  match r with
  | some v => Kn ⟨s.ck, putTm s.tm dst v, s.hp⟩
  | none => False

def finH (s : St) (dst : Option Tmp) (r : Option (Prop × V × Heap)) (Kn : St → Prop) : Prop :=
  match r with
  | some (p, v, hp') => p ∧ Kn ⟨s.ck, putTm s.tm dst v, hp'⟩
  | none => False

/-- A call of 'yield': walked where it stands. -/
def YieldT (X : Cx) (s : St) (dst : Option Tmp) (L : Nat) (args : List V) (Kn : St → Prop) : Prop :=
  X.Ok → ∀ (o : Oper) (c : Call) (x : Operand), o.op = .call c → c.callee = .value x → ev X s x = .fn (.yield L) [] [] → c.args.toList.map (ev X s) = args → o.dst = dst → OpOk X o s Kn

/-- A function without a body, that answers at once. -/
def ExtT (P : Program) (f : FuncId) (args : List V) (Kv : V → Prop) : Prop :=
  ∃ v, (∀ (k : K) (vs : Array Value), ArgsR k args vs → ∃ cv, (callFunc f vs).run P k.w = .ok (.value cv) k.w ∧ R k v cv) ∧ Kv v

theorem ext_ok {X : Cx} (hX : X.Ok) {o : Oper} {c : Call} {x : Operand} {s : St} {Kn : St → Prop} (ho : o.op = .call c) (hc : c.callee = .value x) {f : FuncId} {first cap : List V} (hx : ev X s x = .fn (.func f) first cap)
    (h : ExtT X.P f (first ++ c.args.toList.map (ev X s) ++ cap) (fun r => Kn ⟨s.ck, putTm s.tm o.dst r, s.hp⟩)) : OpOk X o s Kn := by
  obtain ⟨v, hv, hk⟩ := h
  refine OpOk.of_val hX v (by simp [ho]) (fun k a _ _ _ hev => ?_) hk
  have hfx := hev x
  rw [hx] at hfx
  obtain ⟨fs, cs, hfv, hfs, hcs, hfr, hcr⟩ := hfx.fn_inv
  obtain ⟨hm1, hm2⟩ := map_R hev c.args
  have happ : ∀ {l1 l2 : List V} {v1 v2 : Array Value}, ArgsR k l1 v1 → ArgsR k l2 v2 → ArgsR k (l1 ++ l2) (v1 ++ v2) := by
    intro l1 l2 v1 v2 h1 h2
    refine ⟨by simp [h1.1, h2.1], fun j v hv => ?_⟩
    by_cases hj : j < l1.length
    · rw [List.getElem?_append_left hj] at hv
      have := h1.2 j v hv
      simp only [Array.getD_eq_getD_getElem?] at this ⊢
      rwa [Array.getElem?_append_left (by rw [h1.1]; exact hj)]
    · rw [List.getElem?_append_right (by omega)] at hv
      have := h2.2 _ v hv
      simp only [Array.getD_eq_getD_getElem?] at this ⊢
      rw [Array.getElem?_append_right (by rw [h1.1]; omega), h1.1]
      exact this
  obtain ⟨cv, hr, hR⟩ := hv k _ (happ (happ ⟨hfs, hfr⟩ ⟨hm1, hm2⟩) ⟨hcs, hcr⟩)
  refine ⟨cv, ?_, hR⟩
  simp only [execOp, ho, resolve, hc, hfv, Deferred.ofValue, Sem.run_bind, Sem.run_pure, Result.andThen_ok, invoke, hr]

/-- Appends whose result stays the call's own, and calls that are walked where they stand, by the slots of their results (named in the table of contracts). -/
def ownKey (d : Nat) : FuncId := 2000 + d
def isOwn (X : Cx) (dst : Option Tmp) : Bool :=
  match dst with
  | some d => (X.Γ (ownKey d)).isSome
  | none => false
def inlKey (d : Nat) : FuncId := 3000 + d
def isInl (X : Cx) (dst : Option Tmp) : Bool :=
  match dst with
  | some d => (X.Γ (inlKey d)).isSome
  | none => false
def selC (X : Cx) (dst : Option Tmp) (f : FuncId) : Option Contract := if isInl X dst = true then none else X.Γ f
theorem selC_some {X : Cx} {dst : Option Tmp} {f : FuncId} {C : Contract} (h : selC X dst f = some C) : X.Γ f = some C := by
  unfold selC at h
  split at h
  · cases h
  · exact h

noncomputable def exCall (X : Cx) (s : St) (dst : Option Tmp) (x : V) (args : List V) (Kn : St → Prop) : Prop :=
  match x with
  | .fn (.func f) first cap =>
    match selC X dst f with
    | some C => Enters X.P f ∧ callPre s dst C (first ++ args ++ cap) ∧
        Kn ⟨s.ck, putTm s.tm dst (C (s.ck, dst.getD 0) ((first ++ args ++ cap).map (frz 5 s.hp))).val, hpOut s.hp (s.ck, dst.getD 0) (C (s.ck, dst.getD 0) ((first ++ args ++ cap).map (frz 5 s.hp))).obj⟩
    | none => (Enters X.P f ∧ (X.Ok → CallT X s.hp s.ck f (first ++ args ++ cap) (fun r hp' ck' => Kn ⟨ck', putTm s.tm dst r, hp'⟩))) ∨ ExtT X.P f (first ++ args ++ cap) (fun r => Kn ⟨s.ck, putTm s.tm dst r, s.hp⟩)
  | .fn (.yield L) [] [] => YieldT X s dst L args Kn
  | _ => False

/-- Boxes that a table of contracts names as never written. -/
def iceKey (d : Nat) : FuncId := 1000 + d
def isIce (X : Cx) (dst : Option Tmp) : Bool :=
  match dst with
  | some d => (X.Γ (iceKey d)).isSome
  | none => false

noncomputable def exBuiltin (X : Cx) (s : St) (dst : Option Tmp) (b : Builtin) (args : List Operand) (ts : List TypeId) (Kn : St → Prop) : Prop :=
  match b, args, ts with
  | .len, [x], [t] => finP s dst (lenTV X.P s.hp t (ev X s x)) Kn
  | .append, [x, y], [t, t2] => finH s dst (if isOwn X dst = true then appendN X.P s dst t t2 (ev X s x) (ev X s y) else if isIce X dst = true then appendZ X.P s dst t t2 (ev X s x) (ev X s y) else appendF X.P s dst t t2 (ev X s x) (ev X s y)) Kn
  | .copy, [x, y], [t, _] => finH s dst (copyR X.P s t (ev X s x) (ev X s y)) Kn
  | .max, l, _ => finV s dst (extV true (l.map (ev X s))) Kn
  | .min, l, _ => finV s dst (extV false (l.map (ev X s))) Kn
  | _, _, _ => False

def iceC : Contract := fun _ _ => ⟨False, .top, none⟩
theorem ice_holds {P : Program} {G : Nat → V} {f : FuncId} : Holds P G f iceC := fun _ _ _ _ _ _ _ _ _ h => h.elim

/-- A literal slice that is never written: frozen at once. -/
def iceS (P : Program) (s : St) (dst : Option Tmp) (t : TypeId) (len : Nat) (parts : List (Nat × V)) : Option (Prop × V × Heap) :=
  match dst, buildSliceR P s dst t len parts with
  | some d, some (p, _, hp') => match hp' (s.ck, d) with
    | some (.arr n sz get) => some (p ∧ n = len, .sl len sz get, updH hp' (s.ck, d) .dead)
    | _ => none
  | _, _ => none

theorem iceS_ok {X : Cx} (hX : X.Ok) {o : Oper} {t : TypeId} {len : Nat} {parts : Array (Nat × Operand)} {s : St} {Kn : St → Prop} (ho : o.op = .buildSlice t len parts) {pre : Prop} {r : V} {hp' : Heap}
    (h : iceS X.P s o.dst t len (parts.toList.map fun x => (x.1, ev X s x.2)) = some (pre, r, hp')) (hpre : pre)
    (hK : Kn ⟨s.ck, putTm s.tm o.dst r, hp'⟩) : OpOk X o s Kn := by
  unfold iceS at h
  split at h
  · rename_i d p v hp1 hd hb
    split at h
    · rename_i n sz get hl
      simp only [Option.some.injEq, Prod.mk.injEq] at h
      obtain ⟨rfl, rfl, rfl⟩ := h
      obtain ⟨hp, rfl⟩ := hpre
      have hv : v = .msl (s.ck, d) 0 n := by
        rw [hd] at hb
        unfold buildSliceR at hb
        split at hb
        · rename_i e1 d1 hu hd1
          cases hd1
          split at hb
          · split at hb
            · split at hb
              · simp only [Option.some.injEq, Prod.mk.injEq] at hb
                exact hb.2.1.symm
              · cases hb
            · cases hb
          · cases hb
        · cases hb
      subst hv
      intro a w hr next Q hn
      obtain ⟨p', e1, e2⟩ := buildSliceN_of hb
      have hpr := buildSliceR_pu (hd ▸ hb) hp hl
      refine buildSlice_ok hX ho e1 (e2 hp) (Kn := fun s' => s' = ⟨s.ck, putTm s.tm o.dst (.msl (s.ck, d) 0 n), hp1⟩) rfl a w hr next Q fun s' a' w' hs' hr' => ?_
      subst hs'
      obtain ⟨M, B, hst, hk, ht, hm⟩ := hr'
      obtain ⟨M', B', q1, q2, q3⟩ := kill_ok hk hl hpr
      have hown : ∀ b, (mkK w' M B hp1 s.ck).owned b → (mkK w' M B hp1 s.ck).M b := fun b hb => (hk.own b hb).1
      refine hn _ _ _ hK ⟨M', B', hst.trans q1, q2, ?_, hm.step q1⟩
      rw [hd] at ht ⊢
      refine ⟨by simpa [putTm] using ht.1, fun i u hu => ?_⟩
      have hu2 : (s.tm.set d (.sl n sz get))[i]? = some u := hu
      rw [List.getElem?_set] at hu2
      by_cases e : d = i
      · subst e
        split at hu2
        · rename_i hlt
          split at hu2
          · cases hu2
            refine q3 _ (ht.2 d _ ?_)
            show (s.tm.set d _)[d]? = _
            rw [List.getElem?_set]
            simp [*]
          · cases hu2
        · exact absurd rfl ‹_›
      · simp only [e, if_false] at hu2
        refine (ht.2 i u ?_).step q1 hown
        show (s.tm.set d _)[i]? = _
        rw [List.getElem?_set]
        simp only [e, if_false]
        exact hu2
    · cases h
  · cases h

noncomputable def exOp (X : Cx) (o : Oper) (s : St) (Kn : St → Prop) : Prop :=
  match o.op with
  | .move x | .assign x => Kn ⟨s.ck, putTm s.tm o.dst (ev X s x), s.hp⟩
  | .pick c a b => finV s o.dst (pickV (ev X s c) (ev X s a) (ev X s b)) Kn
  | .alloc t => finV s o.dst none Kn ∨ match tzero X.P t with
    | some z => match boxR s o.dst z with
      | some (v, hp') => Kn ⟨s.ck, putTm s.tm o.dst v, hp'⟩
      | none => False
    | none => False
  | .box _ x => if isIce X o.dst = true then finP s o.dst (iceV (ev X s x)) Kn else match boxR s o.dst (ev X s x) with
    | some (v, hp') => Kn ⟨s.ck, putTm s.tm o.dst v, hp'⟩
    | none => False
  | .build t parts => finV s o.dst (buildV X.P t (parts.toList.map fun x => (x.1, ev X s x.2))) Kn
  | .buildSlice t len parts => if isIce X o.dst = true then finH s o.dst (iceS X.P s o.dst t len (parts.toList.map fun x => (x.1, ev X s x.2))) Kn else
      finH s o.dst (buildSliceN X.P s o.dst t len (parts.toList.map fun x => (x.1, ev X s x.2))) Kn
  | .load t x => finV s o.dst (ld X.P s.hp t (ev X s x)) Kn
  | .store t x y => match sto X.P s.hp t (ev X s x) (ev X s y) with
    | some (p, hp') => p ∧ Kn ⟨s.ck, putTm s.tm o.dst .top, hp'⟩
    | none => False
  | .nilCheck x => finV s o.dst (nilCheckV s.hp (ev X s x)) Kn
  | .binOp op t x y _ => finP s o.dst (binV X.P op t (ev X s x) (ev X s y)) Kn
  | .unOp op _ x => finP s o.dst (unV op (ev X s x)) Kn
  | .convert src dst x => finP s o.dst (convV X.P src dst (ev X s x)) Kn
  | .makeFunc f first cap => Kn ⟨s.ck, putTm s.tm o.dst (.fn f (first.toList.map (ev X s)) (cap.toList.map (ev X s))), s.hp⟩
  | .makeSlice t len cap => finH s o.dst (makeSliceR X.P s o.dst t (ev X s len) (ev X s cap)) Kn
  | .slice t x lo hi none => finP s o.dst (sliceV X.P s.hp t (ev X s x) (lo.map (ev X s)) (hi.map (ev X s))) Kn
  | .fieldAddr t x f => finV s o.dst (fieldAddrV X.P s.hp t (ev X s x) f) Kn
  | .field t x f => finV s o.dst (fieldV X.P t (ev X s x) f) Kn
  | .indexAddr t x i => finP s o.dst (indexAddrV X.P s.hp t (ev X s x) (ev X s i)) Kn
  | .index t x i => finP s o.dst (indexV X.P t (ev X s x) (ev X s i)) Kn
  | .extract x i => finV s o.dst (extractV (ev X s x) i) Kn
  | .lookup t x i false => finP s o.dst (lookV X.P s.hp t (ev X s x) (ev X s i)) Kn
  | .mapUpdate t m k x => match mupR X.P s.hp t (ev X s m) (ev X s k) (ev X s x) with
    | some (p, hp') => p ∧ Kn ⟨s.ck, putTm s.tm o.dst .top, hp'⟩
    | none => False
  | .makeMap t none => RawNames s.hp ∧ ∀ L, s.hp (0, L) = none → Kn ⟨s.ck, putTm s.tm o.dst (.mapp L), updH s.hp (0, L) (.raw (.map #[] 0))⟩
  | .range t x => match X.P.underlying t, ev X s x with
    | some .string, .str str => RawNames s.hp ∧ ∀ L, s.hp (0, L) = none → Kn ⟨s.ck, putTm s.tm o.dst (.rawp L), updH s.hp (0, L) (.raw (.stringIter ⟨str.toArray⟩ 0))⟩
    | _, _ => False
  | .next x true => match ev X s x with
    | .rawp L => match s.hp (0, L) with
      | some (.raw (.stringIter b pos)) => (pos < b.size → Kn ⟨s.ck, putTm s.tm o.dst (.tup [.bool true, .int .i64 pos, .int .i32 (Utf8.decode b pos).1]), updH s.hp (0, L) (.raw (.stringIter b (pos + (Utf8.decode b pos).2)))⟩) ∧
          (b.size ≤ pos → Kn ⟨s.ck, putTm s.tm o.dst (.tup [.bool false]), s.hp⟩)
      | _ => False
    | _ => False
  | .call c => match c.callee with
    | .value x => exCall X s o.dst (ev X s x) (c.args.toList.map (ev X s)) Kn
    | .builtin b => exBuiltin X s o.dst b c.args.toList c.argTypes.toList Kn
    | _ => False
  | _ => False

theorem finV_ok {X : Cx} (hX : X.Ok) {o : Oper} {s : St} {Kn : St → Prop} {r : Option V} (h : finV s o.dst r Kn) (hno : ∀ c, o.op ≠ .defer c)
    (hr : ∀ v, r = some v → ∀ (k : K) (a : Act), HeapOk k → k.hp = s.hp → (∀ x, R k (ev X s x) (a.eval x)) → ∃ cv, (execOp a.eval o).run X.P k.w = .ok (.value cv) k.w ∧ R k v cv) : OpOk X o s Kn := by
  cases r with
  | none => exact h.elim
  | some v => exact OpOk.of_val hX v hno (fun k a _ hho hhp hev => hr v rfl k a hho hhp hev) h

theorem finP_ok {X : Cx} (hX : X.Ok) {o : Oper} {s : St} {Kn : St → Prop} {r : Option (Prop × V)} (h : finP s o.dst r Kn) (hno : ∀ c, o.op ≠ .defer c)
    (hr : ∀ p v, r = some (p, v) → p → ∀ (k : K) (a : Act), HeapOk k → k.hp = s.hp → (∀ x, R k (ev X s x) (a.eval x)) → ∃ cv, (execOp a.eval o).run X.P k.w = .ok (.value cv) k.w ∧ R k v cv) : OpOk X o s Kn := by
  cases r with
  | none => exact h.elim
  | some pv => obtain ⟨p, v⟩ := pv; exact OpOk.of_val hX v hno (fun k a _ hho hhp hev => hr p v rfl h.1 k a hho hhp hev) h.2

theorem exOp_ok {X : Cx} (hX : X.Ok) {o : Oper} {s : St} {Kn : St → Prop} (h : exOp X o s Kn) : OpOk X o s Kn := by
  unfold exOp at h
  split at h
  · rename_i x ho
    exact OpOk.of_val hX _ (by simp [ho]) (fun k a _ _ _ hev => run_move (.inl ho) (hev x)) h
  · rename_i x ho
    exact OpOk.of_val hX _ (by simp [ho]) (fun k a _ _ _ hev => run_move (.inr ho) (hev x)) h
  · rename_i c x y ho
    exact finV_ok hX h (by simp [ho]) fun v hv k a hho hhp hev => run_pick ho (hev c) (hev x) (hev y) hv
  · rename_i t ho
    rcases h with h | h
    · exact h.elim
    · cases hz : tzero X.P t with
      | none => simp [hz] at h
      | some z =>
        simp only [hz] at h
        cases hb : boxR s o.dst z with
        | none => simp [hb] at h
        | some vh => obtain ⟨v, hp'⟩ := vh; simp only [hb] at h; exact alloc_op_ok hX ho hz hb h
  · rename_i t x ho
    split at h
    · cases hi : iceV (ev X s x) with
      | none => simp [hi, finP] at h
      | some r => obtain ⟨p, v⟩ := r; rw [hi] at h; exact ice_ok hX ho hi h.1 h.2
    · cases hb : boxR s o.dst (ev X s x) with
      | none => simp [hb] at h
      | some vh => obtain ⟨v, hp'⟩ := vh; simp only [hb] at h; exact box_ok hX ho hb h
  · rename_i t parts ho
    exact finV_ok hX h (by simp [ho]) fun v hv k a hho hhp hev => run_build ho hev hv
  · rename_i t len parts ho
    split at h
    · cases hb : iceS X.P s o.dst t len (parts.toList.map fun x => (x.1, ev X s x.2)) with
      | none => simp [hb, finH] at h
      | some r => obtain ⟨p, v, hp'⟩ := r; rw [hb] at h; exact iceS_ok hX ho hb h.1 h.2
    · cases hb : buildSliceN X.P s o.dst t len (parts.toList.map fun x => (x.1, ev X s x.2)) with
      | none => simp [hb, finH] at h
      | some r => obtain ⟨p, v, hp'⟩ := r; rw [hb] at h; exact buildSlice_ok hX ho hb h.1 h.2
  · rename_i t x ho
    exact finV_ok hX h (by simp [ho]) fun v hv k a hho hhp hev => run_load' hho ho (hev x) (by rw [hhp]; exact hv)
  · rename_i t x y ho
    cases hb : sto X.P s.hp t (ev X s x) (ev X s y) with
    | none => simp [hb] at h
    | some r => obtain ⟨p, hp'⟩ := r; simp only [hb] at h; exact store_op_ok hX ho hb h.1 h.2
  · rename_i x ho
    exact finV_ok hX h (by simp [ho]) fun v hv k a hho hhp hev => run_nilCheck hho ho (hev x) (by rw [hhp]; exact hv)
  · rename_i op t x y t' ho
    exact finP_ok hX h (by simp [ho]) fun p v hv hp k a hho hhp hev => run_bin ho (hev x) (hev y) hv hp
  · rename_i op t x ho
    exact finP_ok hX h (by simp [ho]) fun p v hv hp k a hho hhp hev => run_un ho (hev x) hv hp
  · rename_i src dst x ho
    exact finP_ok hX h (by simp [ho]) fun p v hv hp k a hho hhp hev => run_conv ho (hev x) hv hp
  · rename_i f first cap ho
    exact OpOk.of_val hX _ (by simp [ho]) (fun k a _ _ _ hev => run_makeFunc ho hev) h
  · rename_i t len cap ho
    cases hb : makeSliceR X.P s o.dst t (ev X s len) (ev X s cap) with
    | none => simp [hb, finH] at h
    | some r => obtain ⟨p, v, hp'⟩ := r; rw [hb] at h; exact makeSlice_ok hX ho hb h.1 h.2
  · rename_i t x lo hi ho
    exact finP_ok hX h (by simp [ho]) fun p v hv hp k a hho hhp hev => run_slice hho ho hev (by rw [hhp]; exact hv) hp
  · rename_i t x f ho
    exact finV_ok hX h (by simp [ho]) fun v hv k a hho hhp hev => run_fieldAddr hho ho (hev x) (by rw [hhp]; exact hv)
  · rename_i t x f ho
    exact finV_ok hX h (by simp [ho]) fun v hv k a hho hhp hev => run_field ho (hev x) hv
  · rename_i t x i ho
    exact finP_ok hX h (by simp [ho]) fun p v hv hp k a hho hhp hev => run_indexAddr hho ho (hev x) (hev i) (by rw [hhp]; exact hv) hp
  · rename_i t x i ho
    exact finP_ok hX h (by simp [ho]) fun p v hv hp k a hho hhp hev => run_index ho (hev x) (hev i) hv hp
  · rename_i x i ho
    exact finV_ok hX h (by simp [ho]) fun v hv k a hho hhp hev => run_extract ho (hev x) hv
  · rename_i t x i ho
    exact finP_ok hX h (by simp [ho]) fun p v hv hp k a hho hhp hev => run_lookup hho ho (hev x) (hev i) (by rw [hhp]; exact hv)
  · rename_i t m k x ho
    cases hb : mupR X.P s.hp t (ev X s m) (ev X s k) (ev X s x) with
    | none => simp [hb] at h
    | some r => obtain ⟨p, hp'⟩ := r; rw [hb] at h; exact mapUpdate_op_ok hX ho hb h.2
  · rename_i t ho
    exact makeMap_op_ok hX ho h.1 h.2
  · rename_i t x ho
    split at h
    · rename_i str ht hx
      exact range_op_ok hX ho ht hx h.1 h.2
    · exact h.elim
  · rename_i x ho
    split at h
    · rename_i L hx
      split at h
      · rename_i b pos hl
        exact next_op_ok hX ho hx hl h.1 h.2
      · exact h.elim
    · exact h.elim
  · rename_i c ho
    split at h
    · rename_i x hc
      unfold exCall at h
      split at h
      · rename_i f first cap hx
        split at h
        · rename_i C hC
          exact call_ok hX ho hc hx h.1 (callT_of_holds hX (selC_some hC) h.2.1 h.2.2)
        · rcases h with h | h
          · exact call_ok hX ho hc hx h.1 (h.2 hX)
          · exact ext_ok hX ho hc hx h
      · rename_i L hx
        exact h hX o c x ho hc hx rfl rfl
      · exact h.elim
    · rename_i b hc
      unfold exBuiltin at h
      have hop : ∀ {args : List Operand} {ts : List TypeId}, c.args.toList = args → c.argTypes.toList = ts → o.op = .call { callee := .builtin b, args := args.toArray, argTypes := ts.toArray } := by
        intro args ts h1 h2
        rw [ho]
        obtain ⟨cc, ca, ct⟩ := c
        simp only at hc h1 h2
        subst hc
        subst h1
        subst h2
        simp
      split at h
      · rename_i x t ha ht
        exact finP_ok hX h (by simp [ho]) fun p v hv hp k a hho hhp hev => run_len hho (hop ha ht) (hev x) (by rw [hhp]; exact hv) hp
      · rename_i x y t t2 ha ht
        split at h
        · cases hb : appendN X.P s o.dst t t2 (ev X s x) (ev X s y) with
          | none => simp [hb, finH] at h
          | some r => obtain ⟨p, v, hp'⟩ := r; rw [hb] at h; exact appendN_ok hX (hop ha ht) hb h.1 h.2
        · split at h
          · cases hb : appendZ X.P s o.dst t t2 (ev X s x) (ev X s y) with
            | none => simp [hb, finH] at h
            | some r => obtain ⟨p, v, hp'⟩ := r; rw [hb] at h; exact appendZ_ok hX (hop ha ht) hb h.1 h.2
          · cases hb : appendF X.P s o.dst t t2 (ev X s x) (ev X s y) with
            | none => simp [hb, finH] at h
            | some r => obtain ⟨p, v, hp'⟩ := r; rw [hb] at h; exact append_ok hX (hop ha ht) hb h.1 h.2
      · rename_i x y t t2 ha ht
        cases hb : copyR X.P s t (ev X s x) (ev X s y) with
        | none => simp [hb, finH] at h
        | some r => obtain ⟨p, v, hp'⟩ := r; rw [hb] at h; exact copy_ok hX (hop ha ht) hb h.1 h.2
      · exact finV_ok hX h (by simp [ho]) fun v hv k a hho hhp hev => run_ext (gr := true) (args := c.args) (ts := c.argTypes) (by rw [ho]; obtain ⟨cc, ca, ct⟩ := c; simp only at hc; subst hc; rfl) hev hv
      · exact finV_ok hX h (by simp [ho]) fun v hv k a hho hhp hev => run_ext (gr := false) (args := c.args) (ts := c.argTypes) (by rw [ho]; obtain ⟨cc, ca, ct⟩ := c; simp only at hc; subst hc; rfl) hev hv
      · exact h.elim
    · exact h.elim
  · exact h.elim
end Go.Fly
end
