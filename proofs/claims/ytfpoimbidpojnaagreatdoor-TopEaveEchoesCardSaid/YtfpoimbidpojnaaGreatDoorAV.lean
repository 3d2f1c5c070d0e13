/- Part of a proof: an evaluator of the model's code by abstract values, and plain laws for it. No conditions. -/
import Derived.Test.YtfpoimbidpojnaaGreatDoorAN
import Derived.Test.YtfpoimbidpojnaaGreatDoorAU
import Derived.Test.YtfpoimbidpojnaaGreatDoorAB
import Derived.Test.YtfpoimbidpojnaaGreatDoorAM
import Derived.Test.YtfpoimbidpojnaaGreatDoorAO
import Derived.Lib.Overlaps
import Derived.Test.YtfpoimbidpojnaaGreatDoorAQ
import Derived.Test.YtfpoimbidpojnaaGreatDoorAL
set_option linter.unusedSimpArgs false
set_option linter.unusedVariables false
section
/- Walls that reflect: the plain part of the law. -/
namespace Go.Fly
open Go
/-- A wall that is even. -/
def evenP (ax ay bx ky : Int) : Prop := absE (bx - ax) = absE (ky - ay) ∨ absE (bx - ax) = 0 ∨ absE (ky - ay) = 0
instance (ax ay bx ky : Int) : Decidable (evenP ax ay bx ky) := by unfold evenP; infer_instance
def imgX (ax ay bx ky px py : Int) : Int := if bx - ax = 0 then 2 * ax - px else if ky - ay = 0 then px else if bx - ax = ky - ay then ax + py - ay else ax - (py - ay)
def imgY (ax ay bx ky px py : Int) : Int := if bx - ax = 0 then py else if ky - ay = 0 then 2 * ay - py else if bx - ax = ky - ay then ay + px - ax else ay - (px - ax)
theorem even_cases {ax ay bx ky : Int} (h : evenP ax ay bx ky) :
    (bx - ax = 0 ∧ ∀ px py, imgX ax ay bx ky px py = 2 * ax - px ∧ imgY ax ay bx ky px py = py) ∨
    (ky - ay = 0 ∧ ∀ px py, imgX ax ay bx ky px py = px ∧ imgY ax ay bx ky px py = 2 * ay - py) ∨
    (bx - ax = ky - ay ∧ ∀ px py, imgX ax ay bx ky px py = ax + py - ay ∧ imgY ax ay bx ky px py = ay + px - ax) ∨
    (bx - ax = -(ky - ay) ∧ ∀ px py, imgX ax ay bx ky px py = ax - (py - ay) ∧ imgY ax ay bx ky px py = ay - (px - ax)) := by
  unfold evenP absE at h
  unfold imgX imgY
  by_cases h1 : bx - ax = 0
  · exact .inl ⟨h1, fun px py => by rw [if_pos h1, if_pos h1]; exact ⟨rfl, rfl⟩⟩
  · by_cases h2 : ky - ay = 0
    · exact .inr (.inl ⟨h2, fun px py => by rw [if_neg h1, if_neg h1, if_pos h2, if_pos h2]; exact ⟨rfl, rfl⟩⟩)
    · by_cases h3 : bx - ax = ky - ay
      · exact .inr (.inr (.inl ⟨h3, fun px py => by rw [if_neg h1, if_neg h1, if_neg h2, if_neg h2, if_pos h3, if_pos h3]; exact ⟨rfl, rfl⟩⟩))
      · exact .inr (.inr (.inr ⟨by omega, fun px py => by rw [if_neg h1, if_neg h1, if_neg h2, if_neg h2, if_neg h3, if_neg h3]; exact ⟨rfl, rfl⟩⟩))
theorem img_bd {ax ay bx ky px py : Int} (h1 : -1000 ≤ ax ∧ ax ≤ 1000) (h2 : -1000 ≤ ay ∧ ay ≤ 1000) (h3 : -1000 ≤ px ∧ px ≤ 1000) (h4 : -1000 ≤ py ∧ py ≤ 1000) :
    (-3000 ≤ imgX ax ay bx ky px py ∧ imgX ax ay bx ky px py ≤ 3000) ∧ -3000 ≤ imgY ax ay bx ky px py ∧ imgY ax ay bx ky px py ≤ 3000 := by
  unfold imgX imgY
  (repeat' split) <;> omega
theorem img_apart {ax ay bx ky : Int} (h : evenP ax ay bx ky) (sx sy sz rx ry rz : Int) :
    apartE (imgX ax ay bx ky rx ry) (imgY ax ay bx ky rx ry) rz sx sy sz = apartE (imgX ax ay bx ky sx sy) (imgY ax ay bx ky sx sy) sz rx ry rz := by
  unfold apartE
  rcases even_cases h with ⟨e, q⟩ | ⟨e, q⟩ | ⟨e, q⟩ | ⟨e, q⟩ <;> (rw [(q rx ry).1, (q rx ry).2, (q sx sy).1, (q sx sy).2]; grind)
theorem img_besideA {ax ay bx ky : Int} (h : evenP ax ay bx ky) (sx sy rx ry : Int) :
    besideE (imgX ax ay bx ky rx ry) (imgY ax ay bx ky rx ry) sx sy 1 ax ay = besideE (imgX ax ay bx ky sx sy) (imgY ax ay bx ky sx sy) rx ry 1 ax ay := by
  unfold besideE
  rcases even_cases h with ⟨e, q⟩ | ⟨e, q⟩ | ⟨e, q⟩ | ⟨e, q⟩ <;> (rw [(q rx ry).1, (q rx ry).2, (q sx sy).1, (q sx sy).2]; grind)
theorem img_besideB {ax ay bx ky : Int} (h : evenP ax ay bx ky) (sx sy rx ry : Int) :
    besideE (imgX ax ay bx ky rx ry) (imgY ax ay bx ky rx ry) sx sy 1 bx ky = besideE (imgX ax ay bx ky sx sy) (imgY ax ay bx ky sx sy) rx ry 1 bx ky := by
  unfold besideE
  rcases even_cases h with ⟨e, q⟩ | ⟨e, q⟩ | ⟨e, q⟩ | ⟨e, q⟩ <;> (rw [(q rx ry).1, (q rx ry).2, (q sx sy).1, (q sx sy).2]; grind)
/-- On the same side of a wall. -/
def sideP (p q : Int) : Prop := (0 < p ∧ 0 < q) ∨ (p < 0 ∧ q < 0)
theorem sideP_sym {p q : Int} : sideP q p ↔ sideP p q := by unfold sideP; omega
theorem absE_same {p q u v w x : Int} (h : sideP p q) (e : q * u + p * v = p * w + q * x) : absE q * u + absE p * v = absE p * w + absE q * x := by
  unfold sideP at h
  unfold absE
  rcases h with h | h
  · rw [show max q (-q) = q by omega, show max p (-p) = p by omega]; exact e
  · rw [show max q (-q) = -q by omega, show max p (-p) = -p by omega, Int.neg_mul, Int.neg_mul, Int.neg_mul, Int.neg_mul]; omega
theorem img_at {ax ay bx ky : Int} (h : evenP ax ay bx ky) {sx sy rx ry : Int} (hs : sideP (sideE ax ay bx ky sx sy 1) (sideE ax ay bx ky rx ry 1)) :
    absE (sideE ax ay bx ky rx ry 1) * imgX ax ay bx ky sx sy + absE (sideE ax ay bx ky sx sy 1) * rx = absE (sideE ax ay bx ky sx sy 1) * imgX ax ay bx ky rx ry + absE (sideE ax ay bx ky rx ry 1) * sx ∧
    absE (sideE ax ay bx ky rx ry 1) * imgY ax ay bx ky sx sy + absE (sideE ax ay bx ky sx sy 1) * ry = absE (sideE ax ay bx ky sx sy 1) * imgY ax ay bx ky rx ry + absE (sideE ax ay bx ky rx ry 1) * sy := by
  refine ⟨absE_same hs ?_, absE_same hs ?_⟩
  all_goals
    unfold sideE
    rcases even_cases h with ⟨e, q⟩ | ⟨e, q⟩ | ⟨e, q⟩ | ⟨e, q⟩ <;> (try rw [(q rx ry).1]) <;> (try rw [(q rx ry).2]) <;> (try rw [(q sx sy).1]) <;> (try rw [(q sx sy).2]) <;> grind
theorem mul_same {x u v : Int} (h : (0 < x * u ∧ 0 < x * v) ∨ (x * u < 0 ∧ x * v < 0)) : 0 ≤ u * v := by
  rcases Int.lt_trichotomy u 0 with hu | hu | hu
  · rcases Int.lt_trichotomy v 0 with hv | hv | hv
    · rw [← Int.neg_mul_neg]; exact Int.mul_nonneg (by omega) (by omega)
    · rw [hv, Int.mul_zero]; exact Int.le_refl _
    · exfalso
      rcases Int.lt_trichotomy x 0 with hx | hx | hx
      · have := Int.mul_pos_of_neg_of_neg hx hu
        have := Int.mul_neg_of_neg_of_pos hx hv
        omega
      · subst hx; simp at h
      · have := Int.mul_neg_of_pos_of_neg hx hu
        have := Int.mul_pos hx hv
        omega
  · rw [hu, Int.zero_mul]; exact Int.le_refl _
  · rcases Int.lt_trichotomy v 0 with hv | hv | hv
    · exfalso
      rcases Int.lt_trichotomy x 0 with hx | hx | hx
      · have := Int.mul_pos_of_neg_of_neg hx hv
        have := Int.mul_neg_of_neg_of_pos hx hu
        omega
      · subst hx; simp at h
      · have := Int.mul_neg_of_pos_of_neg hx hv
        have := Int.mul_pos hx hu
        omega
    · rw [hv, Int.mul_zero]; exact Int.le_refl _
    · exact Int.mul_nonneg (by omega) (by omega)
/-- The way over an image is no shorter. -/
theorem img_far {ax ay bx ky : Int} (h : evenP ax ay bx ky) {sx sy sz rx ry rz : Int} (hs : sideP (sideE ax ay bx ky sx sy 1) (sideE ax ay bx ky rx ry 1)) :
    apartE sx sy sz rx ry rz ≤ apartE (imgX ax ay bx ky sx sy) (imgY ax ay bx ky sx sy) sz rx ry rz := by
  unfold sideP sideE at hs
  rcases even_cases h with ⟨e, q⟩ | ⟨e, q⟩ | ⟨e, q⟩ | ⟨e, q⟩
  · have hm : 0 ≤ (sx - ax) * (rx - ax) := mul_same (x := -(ky - ay)) (by rw [e] at hs; simp only [Int.mul_one, Int.zero_mul, Int.zero_sub] at hs; rw [Int.neg_mul, Int.neg_mul]; exact hs)
    have : apartE (imgX ax ay bx ky sx sy) (imgY ax ay bx ky sx sy) sz rx ry rz = apartE sx sy sz rx ry rz + 4 * ((sx - ax) * (rx - ax)) := by
      unfold apartE; rw [(q sx sy).1, (q sx sy).2]; grind
    omega
  · have hm : 0 ≤ (sy - ay) * (ry - ay) := mul_same (x := bx - ax) (by rw [e] at hs; simp only [Int.mul_one, Int.zero_mul, Int.sub_zero] at hs; exact hs)
    have : apartE (imgX ax ay bx ky sx sy) (imgY ax ay bx ky sx sy) sz rx ry rz = apartE sx sy sz rx ry rz + 4 * ((sy - ay) * (ry - ay)) := by
      unfold apartE; rw [(q sx sy).1, (q sx sy).2]; grind
    omega
  · have e1 : ∀ px py : Int, (bx - ax) * (py - ay * 1) - (ky - ay) * (px - ax * 1) = (bx - ax) * ((py - ay) - (px - ax)) := fun px py => by rw [← e]; grind
    rw [e1, e1] at hs
    have hm := mul_same hs
    have : apartE (imgX ax ay bx ky sx sy) (imgY ax ay bx ky sx sy) sz rx ry rz = apartE sx sy sz rx ry rz + 2 * (((sy - ay) - (sx - ax)) * ((ry - ay) - (rx - ax))) := by
      unfold apartE; rw [(q sx sy).1, (q sx sy).2]; grind
    omega
  · have e1 : ∀ px py : Int, (bx - ax) * (py - ay * 1) - (ky - ay) * (px - ax * 1) = (bx - ax) * ((py - ay) + (px - ax)) := fun px py => by rw [show ky - ay = -(bx - ax) by omega]; grind
    rw [e1, e1] at hs
    have hm := mul_same hs
    have : apartE (imgX ax ay bx ky sx sy) (imgY ax ay bx ky sx sy) sz rx ry rz = apartE sx sy sz rx ry rz + 2 * (((sy - ay) + (sx - ax)) * ((ry - ay) + (rx - ax))) := by
      unfold apartE; rw [(q sx sy).1, (q sx sy).2]; grind
    omega
end Go.Fly
end
section
/- An array of the call's own gets a fixed block under a new name; an array with a fixed block is frozen. -/
namespace Go.Fly
open Go

/-- An array of the call's own, from now on by its block. -/
theorem rename_ok {w : World} {M : Nat → Prop} {B : Loc → Option (Nat × Nat)} {hp : Heap} {ck : Nat} (hk : HeapOk (mkK w M B hp ck)) {l l' : Loc} {n sz : Nat} {get : Nat → List V} (hl : hp l = some (.arr n sz get)) (hn : 0 < n) (hl' : hp l' = none) (hck : l'.1 = ck) :
    ∃ B' c, n ≤ c ∧ Step (mkK w M B hp ck) (mkK w M B' (updH (updH hp l .dead) l' (.buf c sz (fun i => if i < n then get i else List.replicate sz .top))) ck) ∧
      HeapOk (mkK w M B' (updH (updH hp l .dead) l' (.buf c sz (fun i => if i < n then get i else List.replicate sz .top))) ck) ∧
      ∀ cv, R (mkK w M B hp ck) (.msl l 0 n) cv → R (mkK w M B' (updH (updH hp l .dead) l' (.buf c sz (fun i => if i < n then get i else List.replicate sz .top))) ck) (.bsl l' 0 n) cv := by
  obtain ⟨g1, g2, g3⟩ := hk.obj l _ hl
  cases hB : (mkK w M B hp ck).B l with
  | none => simp only [hB] at g3; omega
  | some bc =>
    obtain ⟨b, c⟩ := bc
    simp only [hB] at g3
    obtain ⟨hnc, xs, ty, fz, hh, hz, hs, hr⟩ := g3
    have hBl : B l = some (b, c) := hB
    have hne : l ≠ l' := fun e => by rw [e, hl'] at hl; cases hl
    have hnm : ¬ (mkK w M B hp ck).nm l' := by
      intro h; rcases h with h | ⟨_, h⟩
      · omega
      · simp [hl'] at h
    refine ⟨updB (updB B l none) l' (some (b, c)), c, hnc, ?_⟩
    generalize hob : AObj.buf c sz (fun i => if i < n then get i else List.replicate sz .top) = ob
    have h1 : ∀ x : Loc, x ≠ l → x ≠ l' → updH (updH hp l .dead) l' ob x = hp x ∧ updB (updB B l none) l' (some (b, c)) x = B x := fun x e1 e2 => ⟨by rw [updH_ne e2, updH_ne e1], by rw [updB_ne e2, updB_ne e1]⟩
    have h2 : updH (updH hp l .dead) l' ob l = some .dead ∧ updB (updB B l none) l' (some (b, c)) l = none := ⟨by rw [updH_ne hne, updH_same], by rw [updB_ne hne, updB_same]⟩
    have h3 : updH (updH hp l .dead) l' ob l' = some ob ∧ updB (updB B l none) l' (some (b, c)) l' = some (b, c) := ⟨updH_same .., updB_same ..⟩
    let k' : K := mkK w M (updB (updB B l none) l' (some (b, c))) (updH (updH hp l .dead) l' ob) ck
    have hcase : ∀ x : Loc, x = l ∨ x = l' ∨ (x ≠ l ∧ x ≠ l') := fun x => by
      by_cases e1 : x = l
      · exact .inl e1
      · by_cases e2 : x = l'
        · exact .inr (.inl e2)
        · exact .inr (.inr ⟨e1, e2⟩)
    have hown : ∀ x, k'.owned x → (mkK w M B hp ck).owned x := by
      rintro x ⟨l2, o2, c2, q1, q2⟩
      rcases hcase l2 with e | e | ⟨e1, e2⟩
      · subst e
        have : updB (updB B l2 none) l' (some (b, c)) l2 = some (x, c2) := q2
        rw [h2.2] at this; cases this
      · subst e
        have : updB (updB B l none) l2 (some (b, c)) l2 = some (x, c2) := q2
        rw [h3.2] at this
        cases this
        exact ⟨l, _, c, hl, hBl⟩
      · have q1' : updH (updH hp l .dead) l' ob l2 = some o2 := q1
        have q2' : updB (updB B l none) l' (some (b, c)) l2 = some (x, c2) := q2
        rw [(h1 l2 e1 e2).1] at q1'
        rw [(h1 l2 e1 e2).2] at q2'
        exact ⟨l2, o2, c2, q1', q2'⟩
    have hnm' : ∀ x, (mkK w M B hp ck).nm x → k'.nm x := fun x h => nm_upd (nm_upd h)
    have st : Step (mkK w M B hp ck) k' := by
      refine ⟨rfl, rfl, rfl, Nat.le_refl _, fun _ _ _ => rfl, fun x hx => .inl (hown x hx), fun x _ hm => hm, fun x _ _ hm => hm, hnm', fun l2 hl2 o2 ho2 => ?_⟩
      have ho2' : updH (updH hp l .dead) l' ob l2 = some o2 := ho2
      rcases hcase l2 with e | e | ⟨e1, e2⟩
      · subst e
        rw [h2.1] at ho2'
        cases ho2'
        trivial
      · subst e
        exact absurd hl2 hnm
      · rw [(h1 l2 e1 e2).1] at ho2'
        have q := (Step.refl (mkK w M B hp ck)).names l2 hl2 o2 ho2'
        cases o2 with
        | dead => trivial
        | raw r => trivial
        | cells cs => exact ⟨q.1, (h1 l2 e1 e2).2⟩
        | buf _ _ _ => exact ⟨q.1, (h1 l2 e1 e2).2⟩
        | arr n sz get => obtain ⟨n0, g0, q1, q2, q3⟩ := q; exact ⟨n0, g0, q1, q2, fun _ => (h1 l2 e1 e2).2⟩
    have hpb : ∀ x c2 o2, hp x = some o2 → B x = some (b, c2) → x = l := fun x c2 o2 q1 q2 => hk.inj x l b c2 c o2 _ q1 hl q2 hBl
    refine ⟨st, ⟨fun x hx => hk.lt x hx, fun x hx => hk.own x (hown x hx), fun l2 o2 q => ?_, fun l1 l2 x c1 c2 o1 o2 q1 q2 q3 q4 => ?_, fun l2 o2 q => ?_⟩, ?_⟩
    · have q' : updH (updH hp l .dead) l' ob l2 = some o2 := q
      rcases hcase l2 with e | e | ⟨e1, e2⟩
      · subst e; exact hnm' _ (hk.nm l2 _ hl)
      · subst e; exact .inr ⟨hck, by show (updH (updH hp l .dead) l2 ob l2).isSome = true; rw [h3.1]; rfl⟩
      · rw [(h1 l2 e1 e2).1] at q'
        exact hnm' _ (hk.nm l2 o2 q')
    · have q1' : updH (updH hp l .dead) l' ob l1 = some o1 := q1
      have q2' : updH (updH hp l .dead) l' ob l2 = some o2 := q2
      have q3' : updB (updB B l none) l' (some (b, c)) l1 = some (x, c1) := q3
      have q4' : updB (updB B l none) l' (some (b, c)) l2 = some (x, c2) := q4
      rcases hcase l1 with e | e | ⟨e1, e2⟩
      · rw [e, h2.2] at q3'; cases q3'
      · rcases hcase l2 with f | f | ⟨f1, f2⟩
        · rw [f, h2.2] at q4'; cases q4'
        · rw [e, f]
        · rw [e, h3.2] at q3'
          cases q3'
          rw [(h1 l2 f1 f2).1] at q2'; rw [(h1 l2 f1 f2).2] at q4'
          exact absurd (hpb l2 c2 o2 q2' q4') f1
      · rw [(h1 l1 e1 e2).1] at q1'; rw [(h1 l1 e1 e2).2] at q3'
        rcases hcase l2 with f | f | ⟨f1, f2⟩
        · rw [f, h2.2] at q4'; cases q4'
        · rw [f, h3.2] at q4'
          cases q4'
          exact absurd (hpb l1 c1 o1 q1' q3') e1
        · rw [(h1 l2 f1 f2).1] at q2'; rw [(h1 l2 f1 f2).2] at q4'
          exact hk.inj l1 l2 x c1 c2 o1 o2 q1' q2' q3' q4'
    · have q' : updH (updH hp l .dead) l' ob l2 = some o2 := q
      rcases hcase l2 with e | e | ⟨e1, e2⟩
      · subst e
        rw [h2.1] at q'
        cases q'
        exact h2.2
      · subst e
        rw [h3.1] at q'
        cases q'
        suffices hg : ObjOk k' l2 (.buf c sz (fun i => if i < n then get i else List.replicate sz .top)) by
          rw [hob] at hg
          exact hg
        refine ⟨fun i hi => ?_, b, xs, ty, fz, h3.2, hh, hz, hs, fun i j v hi hv => ?_⟩
        · simp only
          split
          · exact g1 i (by assumption)
          · simp
        · simp only at hv
          split at hv
          · exact (hr i j v (by assumption) hv).step st fun b hb => (hk.own b hb).1
          · have : v = .top := List.eq_of_mem_replicate (List.mem_of_getElem? hv)
            subst this
            exact .top _
      · rw [(h1 l2 e1 e2).1] at q'
        exact ObjOk.step st hk q' (by show updH (updH hp l .dead) l' ob l2 = _; rw [(h1 l2 e1 e2).1]; exact q') (h1 l2 e1 e2).2 fun _ _ _ => rfl
    · intro cv hv
      cases hv with
      | msl _ _ _ _ h1c hnn h =>
        obtain ⟨p1, p2⟩ := h _ _ _ hl
        have hcv := p2 (by omega)
        simp only [hB, mslVal] at hcv
        refine .bsl _ _ _ _ h1c (.inr ⟨hck, by show (updH (updH hp l .dead) l' ob l').isSome = true; rw [h3.1]; rfl⟩) fun c' sz' get' hg => ?_
        have hg' : updH (updH hp l .dead) l' ob l' = some (.buf c' sz' get') := hg
        rw [h3.1, ← hob] at hg'
        cases hg'
        exact ⟨b, h3.2, by omega, by simpa using hcv⟩

end Go.Fly
end
section
/- Calls that get an array with a fixed block; arrays with a fixed block read out; slices.overlaps. -/
namespace Go.Fly
open Go

theorem CallT.buf {X : Cx} {hp : Heap} {ck : Nat} {f : FuncId} {rest : List V} {Kn : V → Heap → Nat → Prop} {l : Loc} {n sz : Nat} {get : Nat → List V} (d : Nat) (hl : hp l = some (.arr n sz get)) (hn : 0 < n) (hf : hp (ck, d) = none)
    (h : ∀ c, n ≤ c → CallT X (updH (updH hp l .dead) (ck, d) (.buf c sz (fun i => if i < n then get i else List.replicate sz .top))) ck f (.bsl (ck, d) 0 n :: rest) Kn) : CallT X hp ck f (.msl l 0 n :: rest) Kn := by
  intro w M B vs hst hho hargs
  obtain ⟨B', c, hc, st, hho', hR⟩ := rename_ok hho hl hn hf rfl
  have hown : ∀ b, (mkK w M B hp ck).owned b → (mkK w M B hp ck).M b := fun b hb => (hho.own b hb).1
  refine (h c hc w M B' vs (hst.trans st) hho' ⟨by simpa using hargs.1, fun j v hv => ?_⟩).mono fun e w' ⟨rv, r, hp', ck', M', B2, h1, h2, h3, h4, h5⟩ => ⟨rv, r, hp', ck', M', B2, h1, h2, st.trans h3, h4, h5⟩
  cases j with
  | zero =>
    simp only [List.getElem?_cons_zero, Option.some.injEq] at hv
    subst hv
    exact hR _ (hargs.2 0 _ rfl)
  | succ j => exact (hargs.2 (j + 1) v (by simpa using hv)).step st hown

end Go.Fly
end
section
/- What it is to split a layer. -/
namespace Go.Fly
open Go
end Go.Fly
end
section
/- The air's functions at any input: answers or errors. -/
namespace Go.Fly
open Go
end Go.Fly
end
section
/- Steps of a path of two pieces. -/
namespace Go.Fly
open Go

end Go.Fly
end
section
/- Paths and their echoes through the air, at any input. -/
namespace Go.Fly
open Go
/-! Where a ray turns. -/
end Go.Fly
end
section
/- Walls that reflect: contracts; the same walls reflect both ways. -/
namespace Go.Fly
open Go
def wsd (get : Nat → List V) (i : Nat) (px py : Int) : Int := sideE (cell get i 1) (cell get i 2) (cell get i 3) (cell get i 4) px py 1
def wEven (get : Nat → List V) (i : Nat) : Prop := evenP (cell get i 1) (cell get i 2) (cell get i 3) (cell get i 4)
instance (get : Nat → List V) (i : Nat) : Decidable (wEven get i) := by unfold wEven; infer_instance
def wIx (get : Nat → List V) (i : Nat) (px py : Int) : Int := imgX (cell get i 1) (cell get i 2) (cell get i 3) (cell get i 4) px py
def wIy (get : Nat → List V) (i : Nat) (px py : Int) : Int := imgY (cell get i 1) (cell get i 2) (cell get i 3) (cell get i 4) px py
def atD (get : Nat → List V) (i : Nat) (sx sy rx ry : Int) : Int := absE (wsd get i sx sy) + absE (wsd get i rx ry)
def atX (get : Nat → List V) (i : Nat) (sx sy rx ry : Int) : Int := absE (wsd get i rx ry) * wIx get i sx sy + absE (wsd get i sx sy) * rx
def atY (get : Nat → List V) (i : Nat) (sx sy rx ry : Int) : Int := absE (wsd get i rx ry) * wIy get i sx sy + absE (wsd get i sx sy) * ry
def atZ (get : Nat → List V) (i : Nat) (sx sy sz rx ry rz : Int) : Int := absE (wsd get i rx ry) * sz + absE (wsd get i sx sy) * rz
def wBy (get : Nat → List V) (i : Nat) (sx sy rx ry : Int) : Bool := sameS (besideE (wIx get i sx sy) (wIy get i sx sy) rx ry 1 (cell get i 1) (cell get i 2)) (besideE (wIx get i sx sy) (wIy get i sx sy) rx ry 1 (cell get i 3) (cell get i 4))
def wExc (get : Nat → List V) (k : Nat) (sx sy sz tx ty tz den : Int) : Bool := excB (cell get k 1) (cell get k 2) (cell get k 3) (cell get k 4) (cell get k 5) sx sy sz tx ty tz den
def hides (get : Nat → List V) (i k : Nat) (sx sy sz rx ry rz : Int) : Bool :=
  wExc get k sx sy sz (atX get i sx sy rx ry) (atY get i sx sy rx ry) (atZ get i sx sy sz rx ry rz) (atD get i sx sy rx ry) || wExc get k rx ry rz (atX get i sx sy rx ry) (atY get i sx sy rx ry) (atZ get i sx sy sz rx ry rz) (atD get i sx sy rx ry)
/-- Whether an even wall reflects a path. -/
def reflP (n : Nat) (get : Nat → List V) (i : Nat) (sx sy sz rx ry rz : Int) : Prop :=
  sideP (wsd get i sx sy) (wsd get i rx ry) ∧ wBy get i sx sy rx ry = false ∧ atZ get i sx sy sz rx ry rz < cell get i 5 * atD get i sx sy rx ry ∧ ∀ k, k < n → k ≠ i → hides get i k sx sy sz rx ry rz = false
theorem refl_sym {n : Nat} {get : Nat → List V} {i : Nat} (h : wEven get i) (sx sy sz rx ry rz : Int) : reflP n get i rx ry rz sx sy sz ↔ reflP n get i sx sy sz rx ry rz := by
  unfold reflP
  refine Iff.trans (and_congr_left' sideP_sym) (and_congr_right fun hs => ?_)
  obtain ⟨e1, e2⟩ := img_at h hs
  have x : atX get i rx ry sx sy = atX get i sx sy rx ry := e1.symm
  have y : atY get i rx ry sx sy = atY get i sx sy rx ry := e2.symm
  have z : atZ get i rx ry rz sx sy sz = atZ get i sx sy sz rx ry rz := by unfold atZ; omega
  have d : atD get i rx ry sx sy = atD get i sx sy rx ry := by unfold atD; omega
  have b : wBy get i rx ry sx sy = wBy get i sx sy rx ry := by unfold wBy wIx wIy; rw [img_besideA h, img_besideB h]
  have hd : ∀ k, hides get i k rx ry rz sx sy sz = hides get i k sx sy sz rx ry rz := fun k => by unfold hides; rw [x, y, z, d, Bool.or_comm]
  simp only [z, d, b, hd]
def mirP (n : Nat) (get : Nat → List V) (sx sy sz rx ry rz : Int) (i : Nat) : Prop := wEven get i ∧ reflP n get i sx sy sz rx ry rz
theorem mir_sym (n : Nat) (get : Nat → List V) (sx sy sz rx ry rz : Int) (i : Nat) : mirP n get rx ry rz sx sy sz i ↔ mirP n get sx sy sz rx ry rz i :=
  and_congr_right fun h => refl_sym h sx sy sz rx ry rz
noncomputable def mirB (n : Nat) (get : Nat → List V) (sx sy sz rx ry rz : Int) (i : Nat) : Bool := @decide (mirP n get sx sy sz rx ry rz i) (Classical.propDecidable _)
theorem mirB_true {n : Nat} {get : Nat → List V} {sx sy sz rx ry rz : Int} {i : Nat} : mirB n get sx sy sz rx ry rz i = true ↔ mirP n get sx sy sz rx ry rz i := by unfold mirB; exact @decide_eq_true_iff _ (Classical.propDecidable _)
theorem mirB_sym (n : Nat) (get : Nat → List V) (sx sy sz rx ry rz : Int) : mirB n get rx ry rz sx sy sz = mirB n get sx sy sz rx ry rz := funext fun i => by
  rw [Bool.eq_iff_iff, mirB_true, mirB_true]; exact mir_sym ..
/-- The walls that reflect, by their indices. -/
noncomputable def mirL (n : Nat) (get : Nat → List V) (sx sy sz rx ry rz : Int) (k : Nat) : List Nat := (List.range k).filter (mirB n get sx sy sz rx ry rz)
theorem mirL_sym (n : Nat) (get : Nat → List V) (sx sy sz rx ry rz : Int) (k : Nat) : mirL n get rx ry rz sx sy sz k = mirL n get sx sy sz rx ry rz k := by unfold mirL; rw [mirB_sym]
theorem mirL_no {n : Nat} {get : Nat → List V} {sx sy sz rx ry rz : Int} {k : Nat} (h : ¬ mirP n get sx sy sz rx ry rz k) : mirL n get sx sy sz rx ry rz (k + 1) = mirL n get sx sy sz rx ry rz k := by
  unfold mirL
  rw [List.range_succ, List.filter_append]
  have : mirB n get sx sy sz rx ry rz k = false := by
    cases q : mirB n get sx sy sz rx ry rz k
    · rfl
    · exact absurd (mirB_true.1 q) h
  simp [this]
theorem mirL_yes {n : Nat} {get : Nat → List V} {sx sy sz rx ry rz : Int} {k : Nat} (h : mirP n get sx sy sz rx ry rz k) : mirL n get sx sy sz rx ry rz (k + 1) = mirL n get sx sy sz rx ry rz k ++ [k] := by
  unfold mirL
  rw [List.range_succ, List.filter_append]
  simp [mirB_true.2 h]
theorem mirL_len (n : Nat) (get : Nat → List V) (sx sy sz rx ry rz : Int) (k : Nat) : (mirL n get sx sy sz rx ry rz k).length ≤ k := by
  unfold mirL
  exact Nat.le_trans (List.length_filter_le _ _) (by simp)
theorem mirL_mem {n : Nat} {get : Nat → List V} {sx sy sz rx ry rz : Int} {k j : Nat} (hj : j < (mirL n get sx sy sz rx ry rz k).length) : (mirL n get sx sy sz rx ry rz k).getD j 0 < k ∧ mirP n get sx sy sz rx ry rz ((mirL n get sx sy sz rx ry rz k).getD j 0) := by
  have h : (mirL n get sx sy sz rx ry rz k).getD j 0 ∈ mirL n get sx sy sz rx ry rz k := by
    rw [List.getD_eq_getElem?_getD, List.getElem?_eq_getElem hj]; exact List.getElem_mem hj
  unfold mirL at h
  rw [List.mem_filter, List.mem_range] at h
  exact ⟨h.1, mirB_true.1 h.2⟩
def lowG (a b : Int) : Nat := Nat.gcd (absE a).toNat b.toNat
/-- A mirror. -/
def mirR (get : Nat → List V) (sx sy sz rx ry rz : Int) (i : Nat) : List V :=
  [.int .i64 i, .int .i64 (wIx get i sx sy), .int .i64 (wIy get i sx sy), .int .i64 sz,
   .int .i64 ((atX get i sx sy rx ry).tdiv (lowG (atX get i sx sy rx ry) (atD get i sx sy rx ry))), .int .i64 ((atD get i sx sy rx ry).tdiv (lowG (atX get i sx sy rx ry) (atD get i sx sy rx ry))),
   .int .i64 ((atY get i sx sy rx ry).tdiv (lowG (atY get i sx sy rx ry) (atD get i sx sy rx ry))), .int .i64 ((atD get i sx sy rx ry).tdiv (lowG (atY get i sx sy rx ry) (atD get i sx sy rx ry))),
   .int .i64 ((atZ get i sx sy sz rx ry rz).tdiv (lowG (atZ get i sx sy sz rx ry rz) (atD get i sx sy rx ry))), .int .i64 ((atD get i sx sy rx ry).tdiv (lowG (atZ get i sx sy sz rx ry rz) (atD get i sx sy rx ry))),
   .int .i64 (apartE (wIx get i sx sy) (wIy get i sx sy) sz rx ry rz)]
/-! Bounds with points that are further away. -/
theorem side_bd5 {ax ay bx ky px py den : Int} (h1 : -1000 ≤ ax ∧ ax ≤ 1000) (h2 : -1000 ≤ ay ∧ ay ≤ 1000) (h3 : -1000 ≤ bx ∧ bx ≤ 1000) (h4 : -1000 ≤ ky ∧ ky ≤ 1000)
    (h5 : 0 < den) (h6 : den ≤ 20000000) (h7 : -(5000 * den) ≤ px ∧ px ≤ 5000 * den) (h8 : -(5000 * den) ≤ py ∧ py ≤ 5000 * den) :
    (-20000000000 ≤ ay * den ∧ ay * den ≤ 20000000000) ∧ (-20000000000 ≤ ax * den ∧ ax * den ≤ 20000000000) ∧
    (-(2000 * (6000 * den)) ≤ (bx - ax) * (py - ay * den) ∧ (bx - ax) * (py - ay * den) ≤ 2000 * (6000 * den)) ∧
    (-(2000 * (6000 * den)) ≤ (ky - ay) * (px - ax * den) ∧ (ky - ay) * (px - ax * den) ≤ 2000 * (6000 * den)) ∧
    (-(24000000 * den) ≤ sideE ax ay bx ky px py den ∧ sideE ax ay bx ky px py den ≤ 24000000 * den) := by
  have a1 := mul_abs_le (A := 1000) (B := den) h2.1 h2.2 (b := den) (by omega) (by omega)
  have a2 := mul_abs_le (A := 1000) (B := den) h1.1 h1.2 (b := den) (by omega) (by omega)
  have a3 := mul_abs_le (a := bx - ax) (A := 2000) (B := 6000 * den) (by omega) (by omega) (b := py - ay * den) (by omega) (by omega)
  have a4 := mul_abs_le (a := ky - ay) (A := 2000) (B := 6000 * den) (by omega) (by omega) (b := px - ax * den) (by omega) (by omega)
  unfold sideE
  refine ⟨by omega, by omega, a3, a4, by omega, by omega⟩
theorem beside_bd5 {sx sy tx ty den px py : Int} (h5 : 0 < den) (h6 : den ≤ 20000000) (h1 : -5000 ≤ sx ∧ sx ≤ 5000) (h2 : -5000 ≤ sy ∧ sy ≤ 5000)
    (h7 : -(5000 * den) ≤ tx ∧ tx ≤ 5000 * den) (h8 : -(5000 * den) ≤ ty ∧ ty ≤ 5000 * den) (h3 : -1000 ≤ px ∧ px ≤ 1000) (h4 : -1000 ≤ py ∧ py ≤ 1000) :
    (-(5000 * den) ≤ sx * den ∧ sx * den ≤ 5000 * den) ∧ (-(5000 * den) ≤ sy * den ∧ sy * den ≤ 5000 * den) ∧
    (-(10000 * den * 6000) ≤ (tx - sx * den) * (py - sy) ∧ (tx - sx * den) * (py - sy) ≤ 10000 * den * 6000) ∧
    (-(10000 * den * 6000) ≤ (ty - sy * den) * (px - sx) ∧ (ty - sy * den) * (px - sx) ≤ 10000 * den * 6000) ∧
    (-(120000000 * den) ≤ besideE sx sy tx ty den px py ∧ besideE sx sy tx ty den px py ≤ 120000000 * den) := by
  have a1 := mul_abs_le (A := 5000) (B := den) h1.1 h1.2 (b := den) (by omega) (by omega)
  have a2 := mul_abs_le (A := 5000) (B := den) h2.1 h2.2 (b := den) (by omega) (by omega)
  have a3 := mul_abs_le (a := tx - sx * den) (A := 10000 * den) (B := 6000) (by omega) (by omega) (b := py - sy) (by omega) (by omega)
  have a4 := mul_abs_le (a := ty - sy * den) (A := 10000 * den) (B := 6000) (by omega) (by omega) (b := px - sx) (by omega) (by omega)
  unfold besideE
  refine ⟨a1, a2, a3, a4, by omega, by omega⟩
theorem exc_bd5 {ax ay bx ky h sx sy sz tx ty tz den : Int} (h1 : -1000 ≤ ax ∧ ax ≤ 1000) (h2 : -1000 ≤ ay ∧ ay ≤ 1000) (h3 : -1000 ≤ bx ∧ bx ≤ 1000) (h4 : -1000 ≤ ky ∧ ky ≤ 1000) (hh : 1 ≤ h ∧ h ≤ 1000)
    (hs : SpotOk sx sy sz) (h5 : 0 < den) (h6 : den ≤ 20000000) (h7 : -(5000 * den) ≤ tx ∧ tx ≤ 5000 * den) (h8 : -(5000 * den) ≤ ty ∧ ty ≤ 5000 * den) (h9 : 0 ≤ tz ∧ tz ≤ 1000 * den) :
    (0 ≤ absE (sideE ax ay bx ky sx sy 1) * den ∧ absE (sideE ax ay bx ky sx sy 1) * den ≤ 8000000 * den) ∧
    (0 ≤ excDen ax ay bx ky sx sy tx ty den ∧ excDen ax ay bx ky sx sy tx ty den ≤ 32000000 * den) ∧
    (0 ≤ h * excDen ax ay bx ky sx sy tx ty den ∧ h * excDen ax ay bx ky sx sy tx ty den ≤ 1000 * (32000000 * den)) ∧
    (0 ≤ absE (sideE ax ay bx ky tx ty den) * sz ∧ absE (sideE ax ay bx ky tx ty den) * sz ≤ 24000000 * den * 1000) ∧
    (0 ≤ absE (sideE ax ay bx ky sx sy 1) * tz ∧ absE (sideE ax ay bx ky sx sy 1) * tz ≤ 8000000 * (1000 * den)) ∧
    (cutB ax ay bx ky sx sy tx ty den = true → 0 < excDen ax ay bx ky sx sy tx ty den) := by
  have s1 := absE_le (side_bd h1 h2 h3 h4 (px := sx) (py := sy) (den := 1) (by omega) (by omega) (by have := hs.1; omega) (by have := hs.2.1; omega)).2.2.2.2
  have s2 := absE_le (side_bd5 h1 h2 h3 h4 h5 h6 h7 h8).2.2.2.2
  have a1 := mul_le_of s1.1 s1.2 (b := den) (B := den) (by omega) (by omega)
  have a2 : 0 ≤ excDen ax ay bx ky sx sy tx ty den ∧ excDen ax ay bx ky sx sy tx ty den ≤ 32000000 * den := by unfold excDen; omega
  have a3 := mul_le_of (a := h) (A := 1000) (by omega) (by omega) a2.1 a2.2
  have a4 := mul_le_of s2.1 s2.2 (b := sz) (B := 1000) hs.2.2.1 hs.2.2.2
  have a5 := mul_le_of s1.1 s1.2 h9.1 h9.2
  refine ⟨by omega, a2, a3, a4, by omega, fun hc => ?_⟩
  have p := absE_pos (cut_pos hc).2
  unfold excDen
  omega
/-- Where a wall reflects. -/
theorem at_bd {get : Nat → List V} {i : Nat} {nm : List UInt8} {ec sx sy sz rx ry rz : Int} (hw : WallOk nm (cell get i 1) (cell get i 2) (cell get i 3) (cell get i 4) (cell get i 5) ec) (hs : SpotOk sx sy sz) (hr : SpotOk rx ry rz) :
    (0 ≤ absE (wsd get i sx sy) ∧ absE (wsd get i sx sy) ≤ 8000000) ∧ (0 ≤ absE (wsd get i rx ry) ∧ absE (wsd get i rx ry) ≤ 8000000) ∧
    (-(3000 * atD get i sx sy rx ry) ≤ absE (wsd get i rx ry) * wIx get i sx sy ∧ absE (wsd get i rx ry) * wIx get i sx sy ≤ 3000 * atD get i sx sy rx ry) ∧ (-(1000 * atD get i sx sy rx ry) ≤ absE (wsd get i sx sy) * rx ∧ absE (wsd get i sx sy) * rx ≤ 1000 * atD get i sx sy rx ry) ∧
    (-(3000 * atD get i sx sy rx ry) ≤ absE (wsd get i rx ry) * wIy get i sx sy ∧ absE (wsd get i rx ry) * wIy get i sx sy ≤ 3000 * atD get i sx sy rx ry) ∧ (-(1000 * atD get i sx sy rx ry) ≤ absE (wsd get i sx sy) * ry ∧ absE (wsd get i sx sy) * ry ≤ 1000 * atD get i sx sy rx ry) ∧
    (0 ≤ absE (wsd get i rx ry) * sz ∧ 0 ≤ absE (wsd get i sx sy) * rz ∧ absE (wsd get i rx ry) * sz + absE (wsd get i sx sy) * rz ≤ 1000 * atD get i sx sy rx ry) ∧ (0 ≤ atD get i sx sy rx ry ∧ atD get i sx sy rx ry ≤ 16000000) := by
  obtain ⟨s1, s2, s3⟩ := hs
  obtain ⟨r1, r2, r3⟩ := hr
  have p := absE_le (side_bd hw.p1 hw.p2 hw.p3 hw.p4 (px := sx) (py := sy) (den := 1) (by omega) (by omega) (by omega) (by omega)).2.2.2.2
  have q := absE_le (side_bd hw.p1 hw.p2 hw.p3 hw.p4 (px := rx) (py := ry) (den := 1) (by omega) (by omega) (by omega) (by omega)).2.2.2.2
  have b := img_bd (bx := cell get i 3) (ky := cell get i 4) hw.p1 hw.p2 s1 s2
  have hp : 0 ≤ absE (wsd get i sx sy) ∧ absE (wsd get i sx sy) ≤ 8000000 := by unfold wsd; omega
  have hq : 0 ≤ absE (wsd get i rx ry) ∧ absE (wsd get i rx ry) ≤ 8000000 := by unfold wsd; omega
  unfold atD wIx wIy
  generalize absE (wsd get i sx sy) = P at *
  generalize absE (wsd get i rx ry) = Q at *
  have a1 := mul_abs_le (a := Q) (A := Q) (B := 3000) (by omega) (by omega) b.1.1 b.1.2
  have a2 := mul_abs_le (a := Q) (A := Q) (B := 3000) (by omega) (by omega) b.2.1 b.2.2
  have a3 := mul_abs_le (a := P) (A := P) (B := 1000) (by omega) (by omega) r1.1 r1.2
  have a4 := mul_abs_le (a := P) (A := P) (B := 1000) (by omega) (by omega) r2.1 r2.2
  have a5 := mul_le_of (a := Q) (A := Q) (b := sz) (B := 1000) hq.1 (Int.le_refl _) s3.1 s3.2
  have a6 := mul_le_of (a := P) (A := P) (b := rz) (B := 1000) hp.1 (Int.le_refl _) r3.1 r3.2
  refine ⟨hp, hq, by omega, by omega, by omega, by omega, by omega, by omega⟩
end Go.Fly
end
section
/- The law on walls that reflect: lengths, and what passes. -/
namespace Go.Fly
open Go
theorem sq_apart (a b c d e f : Int) : sqE a b c d e f = apartE a b c d e f := by
  unfold sqE apartE
  have h : ∀ u v : Int, (u - v) * (u - v) = (v - u) * (v - u) := fun u v => by rw [show u - v = -(v - u) by omega, Int.neg_mul_neg]
  rw [h d a, h e b, h f c]
theorem len_root {s : Int} (hs : 0 ≤ s) : rootE s 1 = lenLo s ∧ rootUp s 1 = lenHi s := by
  have h1 := rootE_sq hs (t := 1) (by decide)
  have h2 := rootE_up hs (t := 1) (by decide)
  have h0 := rootE_nonneg s 1
  obtain ⟨a, b, c⟩ := len_spec hs
  have e : rootE s 1 = lenLo s := by
    rw [Int.mul_one] at h1 h2
    rcases Int.lt_trichotomy (rootE s 1) (lenLo s) with q | q | q
    · exfalso
      have := Int.mul_le_mul (show rootE s 1 + 1 ≤ lenLo s by omega) (show rootE s 1 + 1 ≤ lenLo s by omega) (by omega) (by omega)
      omega
    · exact q
    · exfalso
      have := Int.mul_le_mul (show lenLo s + 1 ≤ rootE s 1 by omega) (show lenLo s + 1 ≤ rootE s 1 by omega) (by omega) (by omega)
      omega
  refine ⟨e, ?_⟩
  unfold rootUp lenHi
  rw [e, Int.mul_one]
  by_cases q : lenLo s * lenLo s = s
  · rw [if_pos q, if_neg (by omega)]
  · rw [if_neg q, if_pos (by omega)]
/-- Along a longer way no more passes. -/
theorem p_longer {n : Nat} {get : Nat → List V} {a b c d e f a' b' : Int} (hok : AirOk n get) (hp : PathOk a b c d e f) (hle : sqE a b c d e f ≤ sqE a' b' c d e f) {k : Nat} (hk : k < inN get 0 4) :
    pLo n get a' b' c d e f k ≤ pLo n get a b c d e f k ∧ pHi n get a' b' c d e f k ≤ pHi n get a b c d e f k := by
  have hsq := sqE_bd hp
  have hst := fun i => step_bd (n := n) (get := get) (flat := c) hsq (show min c f ≤ max c f by omega) i
  have hm : ∀ i, stepLo n get (sqE a b c d e f) (min c f) (max c f) c i ≤ stepLo n get (sqE a' b' c d e f) (min c f) (max c f) c i ∧ stepHi n get (sqE a b c d e f) (min c f) (max c f) c i ≤ stepHi n get (sqE a' b' c d e f) (min c f) (max c f) c i := fun i => by
    obtain ⟨hp0, hpb, hb1⟩ := part_bd (n := n) (get := get) (flat := c) (i := i) (show min c f ≤ max c f by omega)
    unfold stepLo stepHi
    generalize partE n get (min c f) (max c f) c i = p at *
    generalize byE (min c f) (max c f) = q at *
    have hpp : 0 ≤ p * p := Int.mul_nonneg hp0 hp0
    have h1 : sqE a b c d e f * p * p ≤ sqE a' b' c d e f * p * p := by rw [Int.mul_assoc, Int.mul_assoc]; exact Int.mul_le_mul_of_nonneg_right hle hpp
    have h2 : 0 ≤ sqE a b c d e f * p * p := by rw [Int.mul_assoc]; exact Int.mul_nonneg hsq.1 hpp
    have hbb : 0 < q * q := Int.mul_pos (by omega) (by omega)
    exact ⟨rootE_mono h1, rootUp_mono h2 (by omega) h1⟩
  unfold pLo pHi
  refine ⟨(pass_mono (fun i hi => ⟨?_, (hm i).2⟩) fun i hi => ?_).2, (pass_mono' (fun i hi => ⟨(hst i).1, (hm i).1⟩) fun i hi => ?_).2⟩
  · have := hst i; omega
  · have := hok.pass i hi k hk; omega
  · have := hok.pass i hi k hk; omega
/-- The way back over another image lets as much pass. -/
theorem p_same {n : Nat} {get : Nat → List V} {a b c d e f a' b' d' e' : Int} (h : sqE a' b' f d' e' c = sqE a b c d e f) (k : Nat) :
    pLo n get a' b' f d' e' c k = pLo n get a b c d e f k ∧ pHi n get a' b' f d' e' c k = pHi n get a b c d e f k := by
  unfold pLo pHi
  rw [h, show (fun i => stepHi n get (sqE a b c d e f) (min f c) (max f c) f i) = fun i => stepHi n get (sqE a b c d e f) (min c f) (max c f) c i from funext fun i => stepHi_sym,
    show (fun i => stepLo n get (sqE a b c d e f) (min f c) (max f c) f i) = fun i => stepLo n get (sqE a b c d e f) (min c f) (max c f) c i from funext fun i => stepLo_sym]
  exact ⟨rfl, rfl⟩
/-! Contracts. -/
def wside5C : Contract := fun _ args =>
  match args with
  | [.agg [.str nm, .int .i64 ax, .int .i64 ay, .int .i64 bx, .int .i64 ky, .int .i64 h, .int .i64 ec], .agg [.int .i64 px, .int .i64 py, .int .i64 pz, .int .i64 den]] =>
    ⟨WallOk nm ax ay bx ky h ec ∧ 0 < den ∧ den ≤ 20000000 ∧ (-(5000 * den) ≤ px ∧ px ≤ 5000 * den) ∧ (-(5000 * den) ≤ py ∧ py ≤ 5000 * den), .int .i64 (sideE ax ay bx ky px py den), none⟩
  | _ => ⟨False, .top, none⟩
def beside5C : Contract := fun _ args =>
  match args with
  | [.agg [.int .i64 sx, .int .i64 sy, .int .i64 sz], .agg [.int .i64 tx, .int .i64 ty, .int .i64 tz, .int .i64 den], .agg [.int .i64 px, .int .i64 py]] =>
    ⟨0 < den ∧ den ≤ 20000000 ∧ (-5000 ≤ sx ∧ sx ≤ 5000) ∧ (-5000 ≤ sy ∧ sy ≤ 5000) ∧ (-(5000 * den) ≤ tx ∧ tx ≤ 5000 * den) ∧ (-(5000 * den) ≤ ty ∧ ty ≤ 5000 * den) ∧ (-1000 ≤ px ∧ px ≤ 1000) ∧ (-1000 ≤ py ∧ py ≤ 1000),
      .int .i64 (besideE sx sy tx ty den px py), none⟩
  | _ => ⟨False, .top, none⟩
def excess5C : Contract := fun _ args =>
  match args with
  | [.agg [.str nm, .int .i64 ax, .int .i64 ay, .int .i64 bx, .int .i64 ky, .int .i64 h, .int .i64 ec], .agg [.int .i64 sx, .int .i64 sy, .int .i64 sz], .agg [.int .i64 tx, .int .i64 ty, .int .i64 tz, .int .i64 den]] =>
    ⟨WallOk nm ax ay bx ky h ec ∧ SpotOk sx sy sz ∧ 0 < den ∧ den ≤ 20000000 ∧ (-(5000 * den) ≤ tx ∧ tx ≤ 5000 * den) ∧ (-(5000 * den) ≤ ty ∧ ty ≤ 5000 * den) ∧ 0 ≤ tz ∧ tz ≤ 1000 * den,
      .tup [.agg [.int .i64 (if cutB ax ay bx ky sx sy tx ty den = true then excNum ax ay bx ky h sx sy sz tx ty tz den else 0), .int .i64 (if cutB ax ay bx ky sx sy tx ty den = true then excDen ax ay bx ky sx sy tx ty den else 0)],
        .bool (excB ax ay bx ky h sx sy sz tx ty tz den)], none⟩
  | _ => ⟨False, .top, none⟩
def wevenC : Contract := fun _ args =>
  match args with
  | [.agg [.str nm, .int .i64 ax, .int .i64 ay, .int .i64 bx, .int .i64 ky, .int .i64 h, .int .i64 ec]] => ⟨WallOk nm ax ay bx ky h ec, .bool (decide (evenP ax ay bx ky)), none⟩
  | _ => ⟨False, .top, none⟩
def wimgC : Contract := fun _ args =>
  match args with
  | [.agg [.str nm, .int .i64 ax, .int .i64 ay, .int .i64 bx, .int .i64 ky, .int .i64 h, .int .i64 ec], .agg [.int .i64 sx, .int .i64 sy, .int .i64 sz]] => ⟨WallOk nm ax ay bx ky h ec ∧ SpotOk sx sy sz, .agg [.int .i64 (imgX ax ay bx ky sx sy), .int .i64 (imgY ax ay bx ky sx sy), .int .i64 sz], none⟩
  | _ => ⟨False, .top, none⟩
def lowestC : Contract := fun _ args =>
  match args with
  | [.agg [.int .i64 a, .int .i64 b]] => ⟨(-1000000000000 ≤ a ∧ a ≤ 1000000000000) ∧ 0 < b ∧ b ≤ 1000000000000, .agg [.int .i64 (a.tdiv (lowG a b)), .int .i64 (b.tdiv (lowG a b))], none⟩
  | _ => ⟨False, .top, none⟩
def apart5C : Contract := fun _ args =>
  match args with
  | [.agg [.int .i64 x, .int .i64 y, .int .i64 z], .agg [.int .i64 u, .int .i64 v, .int .i64 w]] => ⟨(-5000 ≤ x ∧ x ≤ 5000) ∧ (-5000 ≤ y ∧ y ≤ 5000) ∧ (0 ≤ z ∧ z ≤ 1000) ∧ SpotOk u v w, .int .i64 (apartE x y z u v w), none⟩
  | _ => ⟨False, .top, none⟩
noncomputable def reflB (n : Nat) (get : Nat → List V) (i : Nat) (sx sy sz rx ry rz : Int) : Bool := @decide (reflP n get i sx sy sz rx ry rz) (Classical.propDecidable _)
theorem reflB_true {n : Nat} {get : Nat → List V} {i : Nat} {sx sy sz rx ry rz : Int} (h : reflP n get i sx sy sz rx ry rz) : reflB n get i sx sy sz rx ry rz = true := by unfold reflB; exact @decide_eq_true _ (Classical.propDecidable _) h
theorem reflB_false {n : Nat} {get : Nat → List V} {i : Nat} {sx sy sz rx ry rz : Int} (h : ¬ reflP n get i sx sy sz rx ry rz) : reflB n get i sx sy sz rx ry rz = false := by unfold reflB; exact @decide_eq_false _ (Classical.propDecidable _) h
def zero12 : List V := [.int .i64 0, .int .i64 0, .int .i64 0, .int .i64 0, .int .i64 0, .int .i64 0, .int .i64 0, .int .i64 0, .int .i64 0, .int .i64 0, .int .i64 0]
noncomputable def reflC : Contract := fun _ args =>
  match args with
  | [.sl n sz get, .int .i64 i, .agg [.int .i64 sx, .int .i64 sy, .int .i64 sz'], .agg [.int .i64 rx, .int .i64 ry, .int .i64 rz]] =>
    ⟨sz = 7 ∧ IsWalls n get ∧ WallsOk n get ∧ (0 ≤ i ∧ i < n) ∧ SpotOk sx sy sz' ∧ SpotOk rx ry rz ∧ wEven get i.toNat,
      .tup [.agg (if reflB n get i.toNat sx sy sz' rx ry rz = true then mirR get sx sy sz' rx ry rz i.toNat else zero12), .bool (reflB n get i.toNat sx sy sz' rx ry rz)], none⟩
  | _ => ⟨False, .top, none⟩
noncomputable def mirrorsC : Contract := fun _ args =>
  match args with
  | [.sl n sz get, .agg [.int .i64 sx, .int .i64 sy, .int .i64 sz'], .agg [.int .i64 rx, .int .i64 ry, .int .i64 rz]] =>
    ⟨sz = 7 ∧ IsWalls n get ∧ WallsOk n get ∧ SpotOk sx sy sz' ∧ SpotOk rx ry rz,
      .tup [.sl (mirL n get sx sy sz' rx ry rz n).length 11 (fun j => mirR get sx sy sz' rx ry rz ((mirL n get sx sy sz' rx ry rz n).getD j 0)), .int .i64 0], none⟩
  | _ => ⟨False, .top, none⟩
def square4C : Contract := fun _ args =>
  match args with
  | [.agg [.int .i64 x, .int .i64 y, .int .i64 z], .agg [.int .i64 u, .int .i64 v, .int .i64 w]] => ⟨SpotOk x y z ∧ SpotOk u v w, .int .i64 (apartE x y z u v w), none⟩
  | _ => ⟨False, .top, none⟩
def townLawC : Contract := fun _ args =>
  match args with
  | [.agg [.sl nw sw gw, .sl nt st gt, .sl na sa ga, .int .i64 a, .int .i64 b, .int .i64 c, .int .i64 d, .int .i64 e, .int .i64 f, .int .i64 en]] =>
    ⟨(sw = 7 ∧ st = 2 ∧ sa = 5) ∧ IsWalls nw gw ∧ IsIv nt gt ∧ IsAir na ga, .bool true, none⟩
  | _ => ⟨False, .top, none⟩
attribute [go_sem] wside5C beside5C excess5C wevenC wimgC lowestC apart5C reflC mirrorsC square4C townLawC
end Go.Fly
end
