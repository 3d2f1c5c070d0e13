/- PROVED: for every input, 'flyovertop.TopChimeFarther' returns true, and its arguments read behind the call as they did. Conditions: those of the given row, none beside. -/
import Derived.Test.YtlfciglmhomdpaaSCU
set_option linter.unusedSimpArgs false
set_option linter.unusedVariables false
set_option maxRecDepth 100000
namespace Go.Proofs.Ytlfciglmhomdpaa
open Go Go.ChangeShapes Go.WideShapes Go.RowKit Go.Fly Go.Fly.Try

theorem own : ownKnob Try.prog.godebug = none := by kernel_rfl
theorem laidOut : laidOutB Try.prog = true := by kernel_rfl
theorem read26 : Try.prog.readableRec 26 = true := by kernel_rfl
theorem read27 : Try.prog.readableRec 27 = true := by kernel_rfl
theorem read35 : Try.prog.readableRec 35 = true := by kernel_rfl
theorem row26 : 26 < Try.prog.types.size := of_decide_eq_true (by kernel_rfl)
theorem row27 : 27 < Try.prog.types.size := of_decide_eq_true (by kernel_rfl)
theorem row35 : 35 < Try.prog.types.size := of_decide_eq_true (by kernel_rfl)

theorem globals_ok (W : World) (g : Nat) : R (bareK W (fun _ => False)) (G0 g) (.pointer (some ⟨g, 0, none⟩)) := by
  unfold G0
  exact .top _

/-- An argument that is a struct, one that is a slice. -/
theorem agg_arg {P : Program} {W : World} {base : Nat} {t : TypeId} {fs : Array Field} {sz : Nat} {S : List V → Prop} {H : Type} {enc : TypeId × Value → H} {v : Value} {d : DataW H} {ps : List MemPlace}
    (ht : P.underlying t = some (.struct fs)) (hr : Reads P W t sz S) (hv : Value.okWide P W .any base t v) (h : DataW.Trod enc P W 0 (fun _ => true) true t v d ps) : ∃ g, S g ∧ Pu (.agg g) ∧ R (bareK W (fun _ => False)) (.agg g) v := by
  unfold Value.okWide at hv
  rw [ht] at hv
  obtain ⟨cs, rfl, -, -⟩ := hv
  obtain ⟨fuel, hf⟩ := h
  obtain ⟨g, h1, h2, h3, h4, h5⟩ := hr H enc true fuel _ _ hf
  refine ⟨g, h5, pu_agg.2 h3, .agg _ _ ?_ fun j v hv => ?_⟩
  · have : cs.toList.length = sz := h1
    rw [h2, ← this, Array.length_toList]
  · have := h4 j v hv
    have e : cs.toList.getD j undef = cs.getD j undef := by simp [Array.getD_eq_getD_getElem?, List.getD_eq_getElem?_getD]
    have e2 : (Value.cells (.agg cs)).toList = cs.toList := rfl
    rw [e2, e] at this
    exact this
theorem sl_arg {P : Program} {W : World} {base : Nat} {t e : TypeId} {S : List V → Prop} {H : Type} {enc : TypeId × Value → H} {v : Value} {d : DataW H} {ps : List MemPlace}
    (ht : P.underlying t = some (.slice e)) (hr : Reads P W t 1 S) (hv : Value.okWide P W .any base t v) (h : DataW.Trod enc P W 0 (fun _ => true) true t v d ps) : ∃ a, S [a] ∧ Pu a ∧ R (bareK W (fun _ => False)) a v := by
  obtain ⟨a0, len, cap, rfl⟩ := okWide_slice ht hv
  obtain ⟨fuel, hf⟩ := h
  obtain ⟨g, h1, h2, h3, h4, h5⟩ := hr H enc true fuel _ _ hf
  match g, h2 with
  | [a], _ => exact ⟨a, h5, h3 a (by simp), h4 0 a rfl⟩

theorem lifted (os : Os) (started : os.Started) (H : Type) (enc : TypeId × Value → H) :
    ReturnsInHanded {} Try.checked os 3 .any (Rows.topChimeFartherSpec.pre6 enc Try.prog Try.f3 [] false) (Rows.topChimeFartherSpec.post enc Try.prog Try.f3 false true false false) := by
  refine returnsInHanded_of_change (C := Try.checked) own started (by kernel_rfl) Try.func3
    (ChangeSpec.witness6 (C := Try.checked) (os := os) false
      ⟨#[], #[.agg #[.string ByteArray.empty, .slice none 0 0, .int .i64 0, .int .i64 0, .int .i64 0, .int .i64 0, .int .i64 0, .int .i64 0, .int .i64 0, .int .i64 0, .int .i64 0, .slice none 0 0, .slice none 0 0], .slice none 0 0,
        .agg #[.int .i64 0, .int .i64 0, .int .i64 0, .int .i64 0, .int .i64 0, .int .i64 0, .int .i64 0, .int .i64 0, .int .i64 0]], []⟩ 8 (by kernel_rfl) (by kernel_rfl) (by kernel_rfl) (by kernel_rfl) (by kernel_rfl)) ?_
  intro W base args ds gs before hval0 hW _ _
  have hval : ∀ (j : Nat) t v, Try.f3.params[j]? = some t → args[j]? = some v → Value.okWide Try.prog W .any base t v := hval0
  have hW' := hW
  obtain ⟨p, q, hA0, hV, rfl, hfz, hnd⟩ := hW
  have hA : DataW.TrodAll enc Try.prog W 0 (fun _ => true) true Try.f3.params.toList args.toList ds p := hA0
  have hplt := hA.lt
  rw [Try.params3] at hA hval
  obtain ⟨v0, v1, v2, d0, d1, d2, p0, p1, p2, hargs, rfl, rfl, h0, h1, h2⟩ := trodAll_three hA
  subst hargs
  obtain ⟨rfl, rfl⟩ := trodVars_none hV
  obtain ⟨g0, s0, u0, r0⟩ := agg_arg Try.underlying26 (rType W) (hval 0 26 v0 rfl rfl) h0
  obtain ⟨a1, s1, u1, r1⟩ := sl_arg Try.underlying27 (rAirs W) (hval 1 27 v1 rfl rfl) h1
  obtain ⟨g2, s2, u2, r2⟩ := agg_arg Try.underlying35 (rHeard W) (hval 2 35 v2 rfl rfl) h2
  obtain ⟨s, ns, gs, e0, e1, e2, e3, e4, e5, e6, e7, side, nq, gq, m, gt, hs, hns, hq, hm, rfl⟩ := s0
  obtain ⟨n, get, hair, ha1⟩ := s1
  obtain ⟨rfl⟩ : a1 = .sl n 5 get := by simpa using ha1
  obtain ⟨x, y, z, hx, hy, pw, ax, ay, az, hz, rfl⟩ := s2
  clear hA0 hval0
  have key := tFar_ok (0, 0) [.agg [.str s, .sl ns 1 gs, .int .i64 e0, .int .i64 e1, .int .i64 e2, .int .i64 e3, .int .i64 e4, .int .i64 e5, .int .i64 e6, .int .i64 e7, .int .i64 side, .sl nq 1 gq, .sl m 2 gt], .sl n 5 get,
    .agg [.int .i64 x, .int .i64 y, .int .i64 z, .int .i64 hx, .int .i64 hy, .int .i64 pw, .int .i64 ax, .int .i64 ay, .int .i64 az]] W (fun _ => False) #[v0, v1, v2] (fun _ h => h.elim) (globals_ok W)
    (fun a ha => by
      simp only [List.mem_cons, List.not_mem_nil, or_false] at ha
      rcases ha with rfl | rfl | rfl
      · exact u0
      · exact u1
      · exact u2)
    ⟨rfl, fun j v hv => by
      match j, hv with
      | 0, hv => cases hv; exact r0
      | 1, hv => cases hv; exact r1
      | 2, hv => cases hv; exact r2
      | j + 3, hv => simp at hv⟩
    ⟨rfl, rfl, rfl, hns, hq, hm, hs, rfl, hair, hz⟩
  refine key.mono fun e W' ⟨rv, B, he, hst, _, hr⟩ => ?_
  have hr : R _ (.bool true) rv := hr
  obtain rfl := hr.bool_inv
  have hno : ∀ b, ¬ (bareK W fun _ => False).owned b := fun b ⟨l, o, c, h, _⟩ => by cases h
  have hb : Below W.heap.size W W' := ⟨hst.os, hst.tape, hst.output, hst.size, fun k hk => hst.keep k hk (hno k)⟩
  have lt0 : ∀ x ∈ p0, x.block < W.heap.size := fun x hx => hplt x (by simp [hx])
  have lt1 : ∀ x ∈ p1, x.block < W.heap.size := fun x hx => hplt x (by simp [hx])
  have lt2 : ∀ x ∈ p2, x.block < W.heap.size := fun x hx => hplt x (by simp [hx])
  refine ⟨_, he, [d0, d1, d2], [], _, [], p0 ++ (p1 ++ p2), [], hW', ?_, ?_, ?_, hb.frame _, fun h => by cases h⟩
  · exact trodAll_mk1 (shut_bool Try.underlying4 true)
  · exact trodAll_mk3 (hb.trod laidOut read26 row26 h0 lt0) (hb.trod laidOut read27 row27 h1 lt1) (hb.trod laidOut read35 row35 h2 lt2)
  · exact rfl

theorem far_holds : Rows.TopChimeFartherSaid :=
  OpenClaim.holds_of_wide 3 Try.f3 rfl rfl rfl rfl rfl rfl rfl ⟨rfl, rfl, rfl, rfl, rfl⟩ rfl rfl rfl rfl rfl (by kernel_rfl) Try.func3 (by kernel_rfl)
    (of_decide_eq_true (by kernel_rfl)) (by unfold Func.isWrapper; rw [if_neg (of_decide_eq_false (by kernel_rfl))]; exact ⟨rfl, rfl⟩)
    (fun os started H enc _ => lifted os started H enc)

#print axioms far_holds
end Go.Proofs.Ytlfciglmhomdpaa
