/- Part of a proof: an evaluator of the model's code by abstract values, and plain laws for it. No conditions. -/
import Derived.Test.YtmlknpghkclffaaGreatDoorAB
import Derived.Test.YtmlknpghkclffaaGreatDoorAK
import Derived.Lib.Overlaps
set_option linter.unusedSimpArgs false
set_option linter.unusedVariables false
section
/- An array of the call's own gets a fixed block under a new name; an array with a fixed block is frozen. -/
namespace Go.Fly
open Go

/-- An array of the call's own, from now on by its block. -/
theorem rename_ok {w : World} {M : Nat → Prop} {B : Loc → Option (Nat × Nat)} {hp : Heap} {ck : Nat} (hk : HeapOk (mkK w M B hp ck)) {l l' : Loc} {n sz : Nat} {get : Nat → List V} (hl : hp l = some (.arr n sz get)) (hn : 0 < n) (hl' : hp l' = none) (hck : l'.1 = ck) :
    ∃ B' c, n ≤ c ∧ Step (mkK w M B hp ck) (mkK w M B' (updH (updH hp l .dead) l' (.buf c sz (fun i => if i < n then get i else List.replicate sz .top))) ck) ∧
      HeapOk (mkK w M B' (updH (updH hp l .dead) l' (.buf c sz (fun i => if i < n then get i else List.replicate sz .top))) ck) ∧
      ∀ cv, R (mkK w M B hp ck) (.msl l 0 n) cv → R (mkK w M B' (updH (updH hp l .dead) l' (.buf c sz (fun i => if i < n then get i else List.replicate sz .top))) ck) (.bsl l' 0 n) cv := by
  obtain ⟨g1, g2, g3⟩ := hk.obj l _ hl
  cases hB : (mkK w M B hp ck).B l with
  | none => simp only [hB] at g3; omega
  | some bc =>
    obtain ⟨b, c⟩ := bc
    simp only [hB] at g3
    obtain ⟨hnc, xs, ty, fz, hh, hz, hs, hr⟩ := g3
    have hBl : B l = some (b, c) := hB
    have hne : l ≠ l' := fun e => by rw [e, hl'] at hl; cases hl
    have hnm : ¬ (mkK w M B hp ck).nm l' := by
      intro h; rcases h with h | ⟨_, h⟩
      · omega
      · simp [hl'] at h
    refine ⟨updB (updB B l none) l' (some (b, c)), c, hnc, ?_⟩
    generalize hob : AObj.buf c sz (fun i => if i < n then get i else List.replicate sz .top) = ob
    have h1 : ∀ x : Loc, x ≠ l → x ≠ l' → updH (updH hp l .dead) l' ob x = hp x ∧ updB (updB B l none) l' (some (b, c)) x = B x := fun x e1 e2 => ⟨by rw [updH_ne e2, updH_ne e1], by rw [updB_ne e2, updB_ne e1]⟩
    have h2 : updH (updH hp l .dead) l' ob l = some .dead ∧ updB (updB B l none) l' (some (b, c)) l = none := ⟨by rw [updH_ne hne, updH_same], by rw [updB_ne hne, updB_same]⟩
    have h3 : updH (updH hp l .dead) l' ob l' = some ob ∧ updB (updB B l none) l' (some (b, c)) l' = some (b, c) := ⟨updH_same .., updB_same ..⟩
    let k' : K := mkK w M (updB (updB B l none) l' (some (b, c))) (updH (updH hp l .dead) l' ob) ck
    have hcase : ∀ x : Loc, x = l ∨ x = l' ∨ (x ≠ l ∧ x ≠ l') := fun x => by
      by_cases e1 : x = l
      · exact .inl e1
      · by_cases e2 : x = l'
        · exact .inr (.inl e2)
        · exact .inr (.inr ⟨e1, e2⟩)
    have hown : ∀ x, k'.owned x → (mkK w M B hp ck).owned x := by
      rintro x ⟨l2, o2, c2, q1, q2⟩
      rcases hcase l2 with e | e | ⟨e1, e2⟩
      · subst e
        have : updB (updB B l2 none) l' (some (b, c)) l2 = some (x, c2) := q2
        rw [h2.2] at this; cases this
      · subst e
        have : updB (updB B l none) l2 (some (b, c)) l2 = some (x, c2) := q2
        rw [h3.2] at this
        cases this
        exact ⟨l, _, c, hl, hBl⟩
      · have q1' : updH (updH hp l .dead) l' ob l2 = some o2 := q1
        have q2' : updB (updB B l none) l' (some (b, c)) l2 = some (x, c2) := q2
        rw [(h1 l2 e1 e2).1] at q1'
        rw [(h1 l2 e1 e2).2] at q2'
        exact ⟨l2, o2, c2, q1', q2'⟩
    have hnm' : ∀ x, (mkK w M B hp ck).nm x → k'.nm x := fun x h => nm_upd (nm_upd h)
    have st : Step (mkK w M B hp ck) k' := by
      refine ⟨rfl, rfl, rfl, Nat.le_refl _, fun _ _ _ => rfl, fun x hx => .inl (hown x hx), fun x _ hm => hm, fun x _ _ hm => hm, hnm', fun l2 hl2 o2 ho2 => ?_⟩
      have ho2' : updH (updH hp l .dead) l' ob l2 = some o2 := ho2
      rcases hcase l2 with e | e | ⟨e1, e2⟩
      · subst e
        rw [h2.1] at ho2'
        cases ho2'
        trivial
      · subst e
        exact absurd hl2 hnm
      · rw [(h1 l2 e1 e2).1] at ho2'
        have q := (Step.refl (mkK w M B hp ck)).names l2 hl2 o2 ho2'
        cases o2 with
        | dead => trivial
        | raw r => trivial
        | cells cs => exact ⟨q.1, (h1 l2 e1 e2).2⟩
        | buf _ _ _ => exact ⟨q.1, (h1 l2 e1 e2).2⟩
        | arr n sz get => obtain ⟨n0, g0, q1, q2, q3⟩ := q; exact ⟨n0, g0, q1, q2, fun _ => (h1 l2 e1 e2).2⟩
    have hpb : ∀ x c2 o2, hp x = some o2 → B x = some (b, c2) → x = l := fun x c2 o2 q1 q2 => hk.inj x l b c2 c o2 _ q1 hl q2 hBl
    refine ⟨st, ⟨fun x hx => hk.lt x hx, fun x hx => hk.own x (hown x hx), fun l2 o2 q => ?_, fun l1 l2 x c1 c2 o1 o2 q1 q2 q3 q4 => ?_, fun l2 o2 q => ?_⟩, ?_⟩
    · have q' : updH (updH hp l .dead) l' ob l2 = some o2 := q
      rcases hcase l2 with e | e | ⟨e1, e2⟩
      · subst e; exact hnm' _ (hk.nm l2 _ hl)
      · subst e; exact .inr ⟨hck, by show (updH (updH hp l .dead) l2 ob l2).isSome = true; rw [h3.1]; rfl⟩
      · rw [(h1 l2 e1 e2).1] at q'
        exact hnm' _ (hk.nm l2 o2 q')
    · have q1' : updH (updH hp l .dead) l' ob l1 = some o1 := q1
      have q2' : updH (updH hp l .dead) l' ob l2 = some o2 := q2
      have q3' : updB (updB B l none) l' (some (b, c)) l1 = some (x, c1) := q3
      have q4' : updB (updB B l none) l' (some (b, c)) l2 = some (x, c2) := q4
      rcases hcase l1 with e | e | ⟨e1, e2⟩
      · rw [e, h2.2] at q3'; cases q3'
      · rcases hcase l2 with f | f | ⟨f1, f2⟩
        · rw [f, h2.2] at q4'; cases q4'
        · rw [e, f]
        · rw [e, h3.2] at q3'
          cases q3'
          rw [(h1 l2 f1 f2).1] at q2'; rw [(h1 l2 f1 f2).2] at q4'
          exact absurd (hpb l2 c2 o2 q2' q4') f1
      · rw [(h1 l1 e1 e2).1] at q1'; rw [(h1 l1 e1 e2).2] at q3'
        rcases hcase l2 with f | f | ⟨f1, f2⟩
        · rw [f, h2.2] at q4'; cases q4'
        · rw [f, h3.2] at q4'
          cases q4'
          exact absurd (hpb l1 c1 o1 q1' q3') e1
        · rw [(h1 l2 f1 f2).1] at q2'; rw [(h1 l2 f1 f2).2] at q4'
          exact hk.inj l1 l2 x c1 c2 o1 o2 q1' q2' q3' q4'
    · have q' : updH (updH hp l .dead) l' ob l2 = some o2 := q
      rcases hcase l2 with e | e | ⟨e1, e2⟩
      · subst e
        rw [h2.1] at q'
        cases q'
        exact h2.2
      · subst e
        rw [h3.1] at q'
        cases q'
        suffices hg : ObjOk k' l2 (.buf c sz (fun i => if i < n then get i else List.replicate sz .top)) by
          rw [hob] at hg
          exact hg
        refine ⟨fun i hi => ?_, b, xs, ty, fz, h3.2, hh, hz, hs, fun i j v hi hv => ?_⟩
        · simp only
          split
          · exact g1 i (by assumption)
          · simp
        · simp only at hv
          split at hv
          · exact (hr i j v (by assumption) hv).step st fun b hb => (hk.own b hb).1
          · have : v = .top := List.eq_of_mem_replicate (List.mem_of_getElem? hv)
            subst this
            exact .top _
      · rw [(h1 l2 e1 e2).1] at q'
        exact ObjOk.step st hk q' (by show updH (updH hp l .dead) l' ob l2 = _; rw [(h1 l2 e1 e2).1]; exact q') (h1 l2 e1 e2).2 fun _ _ _ => rfl
    · intro cv hv
      cases hv with
      | msl _ _ _ _ h1c hnn h =>
        obtain ⟨p1, p2⟩ := h _ _ _ hl
        have hcv := p2 (by omega)
        simp only [hB, mslVal] at hcv
        refine .bsl _ _ _ _ h1c (.inr ⟨hck, by show (updH (updH hp l .dead) l' ob l').isSome = true; rw [h3.1]; rfl⟩) fun c' sz' get' hg => ?_
        have hg' : updH (updH hp l .dead) l' ob l' = some (.buf c' sz' get') := hg
        rw [h3.1, ← hob] at hg'
        cases hg'
        exact ⟨b, h3.2, by omega, by simpa using hcv⟩

/-- An array with a fixed block that is not written any more. -/
theorem killB_ok {w : World} {M : Nat → Prop} {B : Loc → Option (Nat × Nat)} {hp : Heap} {ck : Nat} (hk : HeapOk (mkK w M B hp ck)) {l : Loc} {c0 off n sz : Nat} {get : Nat → List V} (hl : hp l = some (.buf c0 sz get)) (hpr : ∀ (i j : Nat) (v : V), i < n → (get (off + i))[j]? = some v → Pu v) :
    ∃ M' B', Step (mkK w M B hp ck) (mkK w M' B' (updH hp l .dead) ck) ∧ HeapOk (mkK w M' B' (updH hp l .dead) ck) ∧
      ∀ cv, R (mkK w M B hp ck) (.bsl l off n) cv → R (mkK w M' B' (updH hp l .dead) ck) (.sl n sz (fun i => get (off + i))) cv := by
  let k' : K := mkK w (fun b => M b ∧ ∀ c, B l ≠ some (b, c)) (updB B l none) (updH hp l .dead) ck
  have hold : ∀ l' : Loc, l' ≠ l → updH hp l .dead l' = hp l' ∧ updB B l none l' = B l' := fun l' h => ⟨updH_ne h, updB_ne h⟩
  have hown : ∀ b, k'.owned b → ∃ l' o c, l' ≠ l ∧ hp l' = some o ∧ B l' = some (b, c) := by
    rintro b ⟨l', o', c', h1, h2⟩
    by_cases e : l' = l
    · subst e
      have : updB B l' none l' = some (b, c') := h2
      rw [updB_same] at this
      cases this
    · have h3 : updH hp l .dead l' = some o' := h1
      have h4 : updB B l none l' = some (b, c') := h2
      rw [(hold l' e).1] at h3; rw [(hold l' e).2] at h4
      exact ⟨l', o', c', e, h3, h4⟩
  have st : Step (mkK w M B hp ck) k' := by
    refine ⟨rfl, rfl, rfl, Nat.le_refl _, fun _ _ _ => rfl, fun b hb => ?_, fun b _ hm => hm.1, fun b _ ho hm => ⟨hm, fun c hc => ho ⟨l, _, c, hl, hc⟩⟩, fun l' h => nm_upd h, fun l' hl' o' ho' => ?_⟩
    · obtain ⟨l', o, c, _, h1, h2⟩ := hown b hb
      exact .inl ⟨l', o, c, h1, h2⟩
    · by_cases e : l' = l
      · subst e
        have h3 : updH hp l' .dead l' = some o' := ho'
        rw [updH_same] at h3
        cases h3
        trivial
      · have h3 : updH hp l .dead l' = some o' := ho'
        rw [(hold l' e).1] at h3
        have q := (Step.refl (mkK w M B hp ck)).names l' hl' o' h3
        cases o' with
        | dead => trivial
        | raw r => trivial
        | cells cs => exact ⟨q.1, (hold l' e).2⟩
        | buf _ _ _ => exact ⟨q.1, (hold l' e).2⟩
        | arr n sz get => obtain ⟨n0, g0, q1, q2, q3⟩ := q; exact ⟨n0, g0, q1, q2, fun _ => (hold l' e).2⟩
  refine ⟨_, _, st, ⟨fun b hb => hk.lt b hb.1, fun b hb => ?_, fun l' o' h1 => ?_, fun l1 l2 b c1 c2 o1 o2 h1 h2 h3 h4 => ?_, fun l' o' h1 => ?_⟩, ?_⟩
  · obtain ⟨l', o, c, e, h1, h2⟩ := hown b hb
    refine ⟨⟨(hk.own b ⟨l', o, c, h1, h2⟩).1, fun c' hc => e (hk.inj l' l b c c' o _ h1 hl h2 hc)⟩, (hk.own b ⟨l', o, c, h1, h2⟩).2⟩
  · by_cases e : l' = l
    · subst e; exact nm_upd (hk.nm l' _ hl)
    · have h3 : updH hp l .dead l' = some o' := h1
      rw [(hold l' e).1] at h3
      exact nm_upd (hk.nm l' o' h3)
  · have f : ∀ l' c, updB B l none l' = some (b, c) → l' ≠ l := by
      intro l' c h e
      subst e
      rw [updB_same] at h
      cases h
    have e1 := f l1 c1 h3
    have e2 := f l2 c2 h4
    have h1' : updH hp l .dead l1 = some o1 := h1
    have h2' : updH hp l .dead l2 = some o2 := h2
    have h3' : updB B l none l1 = some (b, c1) := h3
    have h4' : updB B l none l2 = some (b, c2) := h4
    rw [(hold l1 e1).1] at h1'
    rw [(hold l2 e2).1] at h2'
    rw [(hold l1 e1).2] at h3'
    rw [(hold l2 e2).2] at h4'
    exact hk.inj l1 l2 b c1 c2 o1 o2 h1' h2' h3' h4'
  · by_cases e : l' = l
    · subst e
      have h3 : updH hp l' .dead l' = some o' := h1
      rw [updH_same] at h3
      cases h3
      exact updB_same B l' none
    · have h3 : updH hp l .dead l' = some o' := h1
      rw [(hold l' e).1] at h3
      exact ObjOk.step st hk h3 (by show updH hp l .dead l' = _; rw [(hold l' e).1]; exact h3) (hold l' e).2 fun _ _ _ => rfl
  · intro cv hv
    cases hv with
    | bsl _ _ _ _ h1c hn h =>
      obtain ⟨b, hB, hoc, hcv⟩ := h _ _ _ hl
      obtain ⟨g1, b2, xs, ty, fz, hB2, hh, hz, hs, hr⟩ := hk.obj l _ hl
      rw [hB] at hB2
      cases hB2
      have hpu : Pu (.sl n sz (fun i => get (off + i))) := .sl _ _ _ hpr
      subst hcv
      rcases Nat.eq_zero_or_pos n with z | z
      · subst z; exact .sl0 _ _ _ _
      refine .sl _ _ _ b (off * sz) (c0 - off) (fun i j => xs.getD ((off + i) * sz + j) undef) (fun q => q.2 _ hB) (lt_of_heap hh) (by omega) hpu (fun i hi => g1 _ (by omega)) (fun i j hi hj => ?_) fun i j v hi hv => ?_
      · have e : off * sz + i * sz + j = (off + i) * sz + j := by rw [Nat.add_mul]
        rw [e]
        have hlt : (off + i) * sz + j < xs.size := by
          rw [hs]
          have : (off + i + 1) * sz ≤ c0 * sz := Nat.mul_le_mul_right _ (by omega)
          rw [Nat.add_mul (off + i)] at this
          omega
        exact cell_of_cells hh hlt
      · exact (hr (off + i) j v (by omega) hv).step st fun b hb => (hk.own b hb).1
end Go.Fly
end
section
/- Calls that get an array with a fixed block; arrays with a fixed block read out; slices.overlaps. -/
namespace Go.Fly
open Go

theorem CallT.buf {X : Cx} {hp : Heap} {ck : Nat} {f : FuncId} {rest : List V} {Kn : V → Heap → Nat → Prop} {l : Loc} {n sz : Nat} {get : Nat → List V} (d : Nat) (hl : hp l = some (.arr n sz get)) (hn : 0 < n) (hf : hp (ck, d) = none)
    (h : ∀ c, n ≤ c → CallT X (updH (updH hp l .dead) (ck, d) (.buf c sz (fun i => if i < n then get i else List.replicate sz .top))) ck f (.bsl (ck, d) 0 n :: rest) Kn) : CallT X hp ck f (.msl l 0 n :: rest) Kn := by
  intro w M B vs hst hho hargs
  obtain ⟨B', c, hc, st, hho', hR⟩ := rename_ok hho hl hn hf rfl
  have hown : ∀ b, (mkK w M B hp ck).owned b → (mkK w M B hp ck).M b := fun b hb => (hho.own b hb).1
  refine (h c hc w M B' vs (hst.trans st) hho' ⟨by simpa using hargs.1, fun j v hv => ?_⟩).mono fun e w' ⟨rv, r, hp', ck', M', B2, h1, h2, h3, h4, h5⟩ => ⟨rv, r, hp', ck', M', B2, h1, h2, st.trans h3, h4, h5⟩
  cases j with
  | zero =>
    simp only [List.getElem?_cons_zero, Option.some.injEq] at hv
    subst hv
    exact hR _ (hargs.2 0 _ rfl)
  | succ j => exact (hargs.2 (j + 1) v (by simpa using hv)).step st hown

/-- An array with a fixed block that is not written any more. -/
theorem Ents.killB {k0 : K} {s : St} {d : Nat} {l : Loc} {c off n sz : Nat} {get : Nat → List V} (hd : s.tm[d]? = some (.bsl l off n)) (hl : s.hp l = some (.buf c sz get)) (hpr : ∀ (i j : Nat) (v : V), i < n → (get (off + i))[j]? = some v → Pu v) :
    Ents k0 s ⟨s.ck, s.tm.set d (.sl n sz (fun i => get (off + i))), updH s.hp l .dead⟩ := by
  intro a w ⟨M, B, hst, hk, ht, hm⟩
  obtain ⟨M', B', q1, q2, q3⟩ := killB_ok hk hl hpr
  have ho : ∀ b, (mkK w M B s.hp s.ck).owned b → (mkK w M B s.hp s.ck).M b := fun b hb => (hk.own b hb).1
  refine ⟨M', B', hst.trans q1, q2, ⟨by simpa using ht.1, fun t v hv => ?_⟩, hm.step q1⟩
  rw [List.getElem?_set] at hv
  by_cases e : d = t
  · subst e
    have hlt := (List.getElem?_eq_some_iff.1 hd).1
    simp only [if_true, hlt, Option.some.injEq] at hv
    subst hv
    exact q3 _ (ht.2 d _ hd)
  · simp only [e, if_false] at hv
    exact (ht.2 t v hv).step q1 ho

/-- The same where a call ends: its answer is what is read out. -/
theorem CallT.killB {X : Cx} {hp : Heap} {ck : Nat} {f : FuncId} {args : List V} {Kn : V → Heap → Nat → Prop}
    (h : CallT X hp ck f args (fun r hp' ck' => ∃ l off n c sz get, r = .bsl l off n ∧ hp' l = some (.buf c sz get) ∧ (∀ (i j : Nat) (v : V), i < n → (get (off + i))[j]? = some v → Pu v) ∧ Kn (.sl n sz (fun i => get (off + i))) (updH hp' l .dead) ck')) : CallT X hp ck f args Kn := by
  intro w M B vs hst hho hargs
  refine (h w M B vs hst hho hargs).mono fun e w' ⟨rv, r, hp', ck', M', B2, ⟨l, off, n, c, sz, get, hr, hl, hpr, hK⟩, h2, h3, h4, h5⟩ => ?_
  subst hr
  obtain ⟨M3, B3, q1, q2, q3⟩ := killB_ok h4 hl hpr
  exact ⟨rv, _, _, ck', M3, B3, hK, h2, h3.trans q1, q2, q3 _ h5⟩

theorem run_overlaps_own {P : Program} {k : K} (hk : HeapOk k) {l : Loc} {off len c sz n sz2 : Nat} {get get2 : Nat → List V} (hl : k.hp l = some (.buf c sz get)) {tS tR e : TypeId}
    (ht : P.underlying tS = some (.slice e)) (hg : (tagg P e).isSome = true) (hn : 0 < n) (h2 : 0 < sz2) {x y : Value} (hx : R k (.bsl l off len) x) (hy : R k (.sl n sz2 get2) y) :
    (Extern.SlicesOverlaps.overlaps #[tS, tS] #[tR] #[x, y]).run P k.w = .ok (.bool false) k.w := by
  obtain ⟨b, hb⟩ := Option.isSome_iff_exists.1 hg
  have hsz : ∀ w' : World, (sizeOf e).run P w' = .ok (tsz P e) w' := run_sizeOf' hb
  obtain ⟨g1, b0, xs, ty, fz, hB0, hh, hz, hs, hr⟩ := hk.obj l _ hl
  cases hx with
  | bsl _ _ _ _ h1c hnm h =>
    obtain ⟨b1, hB, hoc, hcv⟩ := h _ _ _ hl
    rw [hB0] at hB
    cases hB
    subst hcv
    have hM : k.M b0 := (hk.own b0 ⟨l, _, c, hl, hB0⟩).1
    have hfz : ∀ o, k.w.frozen? ⟨b0, o, none⟩ = false := fun o => frozen_false hh hz
    have hsh : k.w.shape? b0 = some (ty, xs.size) := by simp [World.shape?, hh]
    cases hy with
    | sl0 _ _ oa cap => omega
    | sl _ _ _ b2 off2 cap x2 hM2 hb2 hcap hp hl2 hc h =>
      have hne : b0 ≠ b2 := fun e => hM2 (e ▸ hM)
      have hcell := hc 0 0 hn h2
      obtain ⟨ys, ty2, fz2, hh2, hpos⟩ : ∃ ys ty2 fz2, k.w.heap[b2]? = some (.cells ys ty2 fz2) ∧ 0 < ys.size := by
        unfold World.cell? at hcell
        split at hcell
        · rename_i ys ty2 fz2 hq
          refine ⟨ys, ty2, fz2, hq, ?_⟩
          simp only [Option.isSome_none, Bool.false_eq_true, if_false] at hcell
          have := (Array.getElem?_eq_some_iff.1 hcell).1
          omega
        · cases hcell
      have hsh2 : k.w.shape? b2 = some (ty2, ys.size) := by simp [World.shape?, hh2]
      exact Lib.run_overlaps_apart k.w tS tR e ht (tsz P e) hsz _ _ _ _ _ _ hne ty ty2 xs.size ys.size hsh hsh2 (by omega) (hfz _) (hfz _)

theorem ext_overlaps {P : Program} {hp : Heap} {f : FuncId} {fn : Func} {tS tR e : TypeId} (hf : P.funcs[f]? = some fn) (hname : (fn.name == "runtime.NumGoroutine") = false)
    (hb : fn.body.isNone = true) (hn : Extern.findNext fn = none) (he : Extern.find fn = some (Extern.SlicesOverlaps.overlaps #[tS, tS] #[tR])) (ht : P.underlying tS = some (.slice e)) (hg : (tagg P e).isSome = true)
    {l : Loc} {off len c sz n sz2 : Nat} {get get2 : Nat → List V} (hl : hp l = some (.buf c sz get)) (h1 : 0 < n) (h2 : 0 < sz2) {Kv : V → Prop} (h : Kv (.bool false)) : ExtT P hp f [.bsl l off len, .sl n sz2 get2] Kv := by
  refine ⟨.bool false, fun k vs ⟨hs, hv⟩ hk hhp => ?_, h⟩
  obtain ⟨v0, v1, rfl⟩ : ∃ v0 v1, vs = #[v0, v1] := by
    have : vs.size = 2 := hs
    match vs, this with
    | ⟨[v, u]⟩, _ => exact ⟨v, u, rfl⟩
  have q0 : R k (.bsl l off len) v0 := hv 0 _ rfl
  have q1 : R k (.sl n sz2 get2) v1 := hv 1 _ rfl
  refine ⟨.bool false, ?_, .bool _⟩
  rw [run_callFunc_extern hf hname hb hn he, run_overlaps_own hk (by rw [hhp]; exact hl) ht hg h1 h2 q0 q1]
  rfl
end Go.Fly
end
section
/- What it is to split a layer. -/
namespace Go.Fly
open Go
def repG (get gv : Nat → List V) (i j : Nat) : List V := if j < i then get j else if j = i then gv 0 else if j = i + 1 then gv 1 else get (j - 1)
theorem isAir_rep {n i : Nat} {get gv : Nat → List V} (h : IsAir n get) (hv : IsAir 2 gv) (hn : n ≤ 1000000) (hi : i < n) : IsAir (n + 1) (repG get gv i) := by
  refine ⟨by omega, fun j hj => ?_⟩
  have key : ∀ g, repG get gv i j = g → g = [.int .i64 (cell (fun _ => g) 0 0), .int .i64 (cell (fun _ => g) 0 1), .int .i64 (cell (fun _ => g) 0 2), .int .i64 (cell (fun _ => g) 0 3), .sl (inN (fun _ => g) 0 4) 2 (inG (fun _ => g) 0 4)] ∧ IsIv (inN (fun _ => g) 0 4) (inG (fun _ => g) 0 4) →
      repG get gv i j = [.int .i64 (cell (repG get gv i) j 0), .int .i64 (cell (repG get gv i) j 1), .int .i64 (cell (repG get gv i) j 2), .int .i64 (cell (repG get gv i) j 3), .sl (inN (repG get gv i) j 4) 2 (inG (repG get gv i) j 4)] ∧ IsIv (inN (repG get gv i) j 4) (inG (repG get gv i) j 4) := by
    intro g hg h
    subst hg
    exact h
  have pick : ∀ (g : Nat → List V) (m k : Nat), IsAir m g → k < m → g k = [.int .i64 (cell (fun _ => g k) 0 0), .int .i64 (cell (fun _ => g k) 0 1), .int .i64 (cell (fun _ => g k) 0 2), .int .i64 (cell (fun _ => g k) 0 3), .sl (inN (fun _ => g k) 0 4) 2 (inG (fun _ => g k) 0 4)] ∧ IsIv (inN (fun _ => g k) 0 4) (inG (fun _ => g k) 0 4) := fun g m k hg hk => hg.2 k hk
  by_cases h1 : j < i
  · exact key (get j) (if_pos h1) (pick get n j h (by omega))
  · by_cases h2 : j = i
    · exact key (gv 0) (by unfold repG; rw [if_neg h1, if_pos h2]) (pick gv 2 0 hv (by omega))
    · by_cases h3 : j = i + 1
      · exact key (gv 1) (by unfold repG; rw [if_neg h1, if_neg h2, if_pos h3]) (pick gv 2 1 hv (by omega))
      · exact key (get (j - 1)) (by unfold repG; rw [if_neg h1, if_neg h2, if_neg h3]) (pick get n (j - 1) h (by omega))

/-- The layer of a height, and its two parts. -/
def splI (n : Nat) (get : Nat → List V) (h : Int) : Nat := (atE n get h).toNat
def splA (n : Nat) (get : Nat → List V) (h : Int) : Int := h - botE get (splI n get h)
def splB (n : Nat) (get : Nat → List V) (h : Int) : Int := if (splI n get h : Int) < (n : Int) - 1 then cell get (splI n get h) 0 - splA n get h else 1
def splV (n : Nat) (get : Nat → List V) (h : Int) (k : Nat) : List V :=
  [.int .i64 (if k = 0 then splA n get h else splB n get h), .int .i64 (cell get (splI n get h) 1), .int .i64 (cell get (splI n get h) 2), .int .i64 (cell get (splI n get h) 3), .sl (inN get (splI n get h) 4) 2 (inG get (splI n get h) 4)]
def spl1 (n : Nat) (get : Nat → List V) (h : Int) : Int := firstL [airE n get, rng h 1 10000]
def spl2 (n : Nat) (get : Nat → List V) (h : Int) : Int := firstL [err (decide (botE get (splI n get h) = h)) 9, err (decide ((n : Int) = 8)) 5]
def splE (n : Nat) (get : Nat → List V) (h : Int) : Int := if spl1 n get h ≠ 0 then spl1 n get h else if spl2 n get h ≠ 0 then spl2 n get h else if 2000 < splA n get h then 4 else 0
def splitC : Contract := fun _ args =>
  match args with
  | [.sl n sz get, .int .i64 h] => ⟨sz = 5 ∧ IsAir n get ∧ n ≤ 1000000,
      if splE n get h ≠ 0 then .tup [.nils, .int .i64 (splE n get h)] else .tup [.sl (n + 1) 5 (repG get (splV n get h) (splI n get h)), .int .i64 0], none⟩
  | _ => ⟨False, .top, none⟩
attribute [go_sem] splitC
theorem isAir_two {a b c d a' b' c' d' : Int} {m m' : Nat} {g g' : Nat → List V} (h : IsIv m g) (h' : IsIv m' g') : IsAir 2 (rowAt [.int .i64 a, .int .i64 b, .int .i64 c, .int .i64 d, .sl m 2 g, .int .i64 a', .int .i64 b', .int .i64 c', .int .i64 d', .sl m' 2 g'] 5) := by
  refine ⟨by omega, fun i hi => ?_⟩
  match i, hi with
  | 0, _ => exact ⟨rfl, h⟩
  | 1, _ => exact ⟨rfl, h'⟩
end Go.Fly
end
