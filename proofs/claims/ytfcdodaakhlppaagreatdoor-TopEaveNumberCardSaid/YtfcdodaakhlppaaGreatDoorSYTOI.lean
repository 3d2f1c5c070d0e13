/- The office: what has a name, to be changed. -/
import Derived.Test.YtfcdodaakhlppaaGreatDoorSYTOB
import Derived.Test.YtfcdodaakhlppaaGreatDoorAO
set_option linter.unusedSimpArgs false
set_option linter.unusedVariables false
set_option maxRecDepth 100000
set_option maxHeartbeats 1000000
namespace Go.Fly.Tryz
open Go Off

theorem kind_call {Γ : FuncId → Option Contract} {r0 : Option Nat} {k0 : K} {H : Heap} {ck : Nat} {Kn : V → Heap → Nat → Prop} (hX : (⟨Proofs.Tryz.prog, Γ, G0, r0, k0⟩ : Cx).Ok) {y : Lay} {r : Reg} {s : Str} (hat : RegAt H y r) (hy : LayOk y ck) (hf : ∀ l : Loc, ck < l.1 → H l = none)
    (hr : RL r) (hs : s ∈ r.namesOf 116) (hKn : ∀ ck', ck ≤ ck' → Kn (.eptr y.n0 r.types.length 3 (place (r.namesOf 116) s) 0) H ck') :
    CallT ⟨Proofs.Tryz.prog, Γ, G0, r0, k0⟩ H ck 170 [.ptr y.box y.off, .str s] Kn := by
  obtain ⟨box, pre, n0, n1, n2, n3, n4, n5⟩ := y
  have hn0 : H n0 = some (.arr r.types.length 3 fun i => encTy (el r.types i)) := hat.types
  have hn1 : H n1 = some (.arr r.houses.length 2 fun i => encHo (el r.houses i)) := hat.houses
  have hn2 : H n2 = some (.arr r.flights.length 5 fun i => encFl (el r.flights i)) := hat.flights
  have hn3 : H n3 = some (.arr r.maps.length 3 fun i => encMp (el r.maps i)) := hat.maps
  have hn4 : H n4 = some (.arr r.offers.length 4 fun i => encOf (el r.offers i)) := hat.offers
  have hn5 : H n5 = some (.arr r.complaints.length 6 fun i => encCo (el r.complaints i)) := hat.complaints
  have h0 := hy.hi box (by simp [Lay.locs])
  have e1g := fun d => freshG (l := box) (ck := ck) (c := ck + 1 + 1 + 1) (d := d) h0 (by omega)
  have hix := idx_in hs
  have hlt : place (r.namesOf 116) s < r.types.length := place_lt_of (f := Ty.name) hs
  rcases hy.pre with q | ⟨u1, u2, q⟩
  · have q : pre = [] := q
    subst q
    have hbx : H box = some (.cells [.int .i64 r.day, .msl n0 0 r.types.length, .msl n1 0 r.houses.length, .msl n2 0 r.flights.length, .msl n3 0 r.maps.length, .msl n4 0 r.offers.length, .msl n5 0 r.complaints.length, .int .i64 r.fund]) := hat.box
    show CallT _ H ck 170 [.ptr box 0, .str s] Kn
    refine CallT.inline hX Proofs.Tryz.func170 rfl foll (D := D170) (by kernel_rfl) (tab [(66, indexC)]) (tab_ok ⟨oIndex_ok, trivial⟩) fun k1 => ?_
    simp only [Proofs.Tryz.f170]
    rw [app_mkT (Nat.le_of_ble_eq_true rfl)]
    simp (maxSteps := 400000) only [go_sem, ↓upXAbsY, ↓upXAbsZa, ↓upXOffC, hbx, hn0, hn1, hn2, hn3, hn4, hn5, frz_ptr, Nat.zero_add, hix, Int.toNat_natCast, e1g]
    exact ⟨⟨r, _, s, rfl, hr⟩, ⟨by omega, by omega⟩, hKn _ (by omega)⟩
  · have q : pre = [u1, u2] := q
    subst q
    have hbx : H box = some (.cells [u1, u2, .int .i64 r.day, .msl n0 0 r.types.length, .msl n1 0 r.houses.length, .msl n2 0 r.flights.length, .msl n3 0 r.maps.length, .msl n4 0 r.offers.length, .msl n5 0 r.complaints.length, .int .i64 r.fund]) := hat.box
    show CallT _ H ck 170 [.ptr box 2, .str s] Kn
    refine CallT.inline hX Proofs.Tryz.func170 rfl foll (D := D170) (by kernel_rfl) (tab [(66, indexC)]) (tab_ok ⟨oIndex_ok, trivial⟩) fun k1 => ?_
    simp only [Proofs.Tryz.f170]
    rw [app_mkT (Nat.le_of_ble_eq_true rfl)]
    simp (maxSteps := 400000) only [go_sem, ↓upXAbsY, ↓upXAbsZa, ↓upXOffC, hbx, hn0, hn1, hn2, hn3, hn4, hn5, frz_ptr, Nat.zero_add, hix, Int.toNat_natCast, e1g]
    exact ⟨⟨r, _, s, rfl, hr⟩, ⟨by omega, by omega⟩, hKn _ (by omega)⟩

theorem flight_call {Γ : FuncId → Option Contract} {r0 : Option Nat} {k0 : K} {H : Heap} {ck : Nat} {Kn : V → Heap → Nat → Prop} (hX : (⟨Proofs.Tryz.prog, Γ, G0, r0, k0⟩ : Cx).Ok) {y : Lay} {r : Reg} {s : Str} (hat : RegAt H y r) (hy : LayOk y ck) (hf : ∀ l : Loc, ck < l.1 → H l = none)
    (hr : RL r) (hs : s ∈ r.namesOf 102) (hKn : ∀ ck', ck ≤ ck' → Kn (.eptr y.n2 r.flights.length 5 (place (r.namesOf 102) s) 0) H ck') :
    CallT ⟨Proofs.Tryz.prog, Γ, G0, r0, k0⟩ H ck 164 [.ptr y.box y.off, .str s] Kn := by
  obtain ⟨box, pre, n0, n1, n2, n3, n4, n5⟩ := y
  have hn0 : H n0 = some (.arr r.types.length 3 fun i => encTy (el r.types i)) := hat.types
  have hn1 : H n1 = some (.arr r.houses.length 2 fun i => encHo (el r.houses i)) := hat.houses
  have hn2 : H n2 = some (.arr r.flights.length 5 fun i => encFl (el r.flights i)) := hat.flights
  have hn3 : H n3 = some (.arr r.maps.length 3 fun i => encMp (el r.maps i)) := hat.maps
  have hn4 : H n4 = some (.arr r.offers.length 4 fun i => encOf (el r.offers i)) := hat.offers
  have hn5 : H n5 = some (.arr r.complaints.length 6 fun i => encCo (el r.complaints i)) := hat.complaints
  have h0 := hy.hi box (by simp [Lay.locs])
  have e1g := fun d => freshG (l := box) (ck := ck) (c := ck + 1 + 1 + 1) (d := d) h0 (by omega)
  have hix := idx_in hs
  have hlt : place (r.namesOf 102) s < r.flights.length := place_lt_of (f := Fl.name) hs
  rcases hy.pre with q | ⟨u1, u2, q⟩
  · have q : pre = [] := q
    subst q
    have hbx : H box = some (.cells [.int .i64 r.day, .msl n0 0 r.types.length, .msl n1 0 r.houses.length, .msl n2 0 r.flights.length, .msl n3 0 r.maps.length, .msl n4 0 r.offers.length, .msl n5 0 r.complaints.length, .int .i64 r.fund]) := hat.box
    show CallT _ H ck 164 [.ptr box 0, .str s] Kn
    refine CallT.inline hX Proofs.Tryz.func164 rfl foll (D := D164) (by kernel_rfl) (tab [(66, indexC)]) (tab_ok ⟨oIndex_ok, trivial⟩) fun k1 => ?_
    simp only [Proofs.Tryz.f164]
    rw [app_mkT (Nat.le_of_ble_eq_true rfl)]
    simp (maxSteps := 400000) only [go_sem, ↓upXAbsY, ↓upXAbsZa, ↓upXOffC, hbx, hn0, hn1, hn2, hn3, hn4, hn5, frz_ptr, Nat.zero_add, hix, Int.toNat_natCast, e1g]
    exact ⟨⟨r, _, s, rfl, hr⟩, ⟨by omega, by omega⟩, hKn _ (by omega)⟩
  · have q : pre = [u1, u2] := q
    subst q
    have hbx : H box = some (.cells [u1, u2, .int .i64 r.day, .msl n0 0 r.types.length, .msl n1 0 r.houses.length, .msl n2 0 r.flights.length, .msl n3 0 r.maps.length, .msl n4 0 r.offers.length, .msl n5 0 r.complaints.length, .int .i64 r.fund]) := hat.box
    show CallT _ H ck 164 [.ptr box 2, .str s] Kn
    refine CallT.inline hX Proofs.Tryz.func164 rfl foll (D := D164) (by kernel_rfl) (tab [(66, indexC)]) (tab_ok ⟨oIndex_ok, trivial⟩) fun k1 => ?_
    simp only [Proofs.Tryz.f164]
    rw [app_mkT (Nat.le_of_ble_eq_true rfl)]
    simp (maxSteps := 400000) only [go_sem, ↓upXAbsY, ↓upXAbsZa, ↓upXOffC, hbx, hn0, hn1, hn2, hn3, hn4, hn5, frz_ptr, Nat.zero_add, hix, Int.toNat_natCast, e1g]
    exact ⟨⟨r, _, s, rfl, hr⟩, ⟨by omega, by omega⟩, hKn _ (by omega)⟩

theorem offer_call {Γ : FuncId → Option Contract} {r0 : Option Nat} {k0 : K} {H : Heap} {ck : Nat} {Kn : V → Heap → Nat → Prop} (hX : (⟨Proofs.Tryz.prog, Γ, G0, r0, k0⟩ : Cx).Ok) {y : Lay} {r : Reg} {s : Str} (hat : RegAt H y r) (hy : LayOk y ck) (hf : ∀ l : Loc, ck < l.1 → H l = none)
    (hr : RL r) (hs : s ∈ r.namesOf 111) (hKn : ∀ ck', ck ≤ ck' → Kn (.eptr y.n4 r.offers.length 4 (place (r.namesOf 111) s) 0) H ck') :
    CallT ⟨Proofs.Tryz.prog, Γ, G0, r0, k0⟩ H ck 136 [.ptr y.box y.off, .str s] Kn := by
  obtain ⟨box, pre, n0, n1, n2, n3, n4, n5⟩ := y
  have hn0 : H n0 = some (.arr r.types.length 3 fun i => encTy (el r.types i)) := hat.types
  have hn1 : H n1 = some (.arr r.houses.length 2 fun i => encHo (el r.houses i)) := hat.houses
  have hn2 : H n2 = some (.arr r.flights.length 5 fun i => encFl (el r.flights i)) := hat.flights
  have hn3 : H n3 = some (.arr r.maps.length 3 fun i => encMp (el r.maps i)) := hat.maps
  have hn4 : H n4 = some (.arr r.offers.length 4 fun i => encOf (el r.offers i)) := hat.offers
  have hn5 : H n5 = some (.arr r.complaints.length 6 fun i => encCo (el r.complaints i)) := hat.complaints
  have h0 := hy.hi box (by simp [Lay.locs])
  have e1g := fun d => freshG (l := box) (ck := ck) (c := ck + 1 + 1 + 1) (d := d) h0 (by omega)
  have hix := idx_in hs
  have hlt : place (r.namesOf 111) s < r.offers.length := place_lt_of (f := Of.name) hs
  rcases hy.pre with q | ⟨u1, u2, q⟩
  · have q : pre = [] := q
    subst q
    have hbx : H box = some (.cells [.int .i64 r.day, .msl n0 0 r.types.length, .msl n1 0 r.houses.length, .msl n2 0 r.flights.length, .msl n3 0 r.maps.length, .msl n4 0 r.offers.length, .msl n5 0 r.complaints.length, .int .i64 r.fund]) := hat.box
    show CallT _ H ck 136 [.ptr box 0, .str s] Kn
    refine CallT.inline hX Proofs.Tryz.func136 rfl foll (D := D136) (by kernel_rfl) (tab [(66, indexC)]) (tab_ok ⟨oIndex_ok, trivial⟩) fun k1 => ?_
    simp only [Proofs.Tryz.f136]
    rw [app_mkT (Nat.le_of_ble_eq_true rfl)]
    simp (maxSteps := 400000) only [go_sem, ↓upXAbsY, ↓upXAbsZa, ↓upXOffC, hbx, hn0, hn1, hn2, hn3, hn4, hn5, frz_ptr, Nat.zero_add, hix, Int.toNat_natCast, e1g]
    exact ⟨⟨r, _, s, rfl, hr⟩, ⟨by omega, by omega⟩, hKn _ (by omega)⟩
  · have q : pre = [u1, u2] := q
    subst q
    have hbx : H box = some (.cells [u1, u2, .int .i64 r.day, .msl n0 0 r.types.length, .msl n1 0 r.houses.length, .msl n2 0 r.flights.length, .msl n3 0 r.maps.length, .msl n4 0 r.offers.length, .msl n5 0 r.complaints.length, .int .i64 r.fund]) := hat.box
    show CallT _ H ck 136 [.ptr box 2, .str s] Kn
    refine CallT.inline hX Proofs.Tryz.func136 rfl foll (D := D136) (by kernel_rfl) (tab [(66, indexC)]) (tab_ok ⟨oIndex_ok, trivial⟩) fun k1 => ?_
    simp only [Proofs.Tryz.f136]
    rw [app_mkT (Nat.le_of_ble_eq_true rfl)]
    simp (maxSteps := 400000) only [go_sem, ↓upXAbsY, ↓upXAbsZa, ↓upXOffC, hbx, hn0, hn1, hn2, hn3, hn4, hn5, frz_ptr, Nat.zero_add, hix, Int.toNat_natCast, e1g]
    exact ⟨⟨r, _, s, rfl, hr⟩, ⟨by omega, by omega⟩, hKn _ (by omega)⟩

theorem complaint_call {Γ : FuncId → Option Contract} {r0 : Option Nat} {k0 : K} {H : Heap} {ck : Nat} {Kn : V → Heap → Nat → Prop} (hX : (⟨Proofs.Tryz.prog, Γ, G0, r0, k0⟩ : Cx).Ok) {y : Lay} {r : Reg} {s : Str} (hat : RegAt H y r) (hy : LayOk y ck) (hf : ∀ l : Loc, ck < l.1 → H l = none)
    (hr : RL r) (hs : s ∈ r.namesOf 99) (hKn : ∀ ck', ck ≤ ck' → Kn (.eptr y.n5 r.complaints.length 6 (place (r.namesOf 99) s) 0) H ck') :
    CallT ⟨Proofs.Tryz.prog, Γ, G0, r0, k0⟩ H ck 137 [.ptr y.box y.off, .str s] Kn := by
  obtain ⟨box, pre, n0, n1, n2, n3, n4, n5⟩ := y
  have hn0 : H n0 = some (.arr r.types.length 3 fun i => encTy (el r.types i)) := hat.types
  have hn1 : H n1 = some (.arr r.houses.length 2 fun i => encHo (el r.houses i)) := hat.houses
  have hn2 : H n2 = some (.arr r.flights.length 5 fun i => encFl (el r.flights i)) := hat.flights
  have hn3 : H n3 = some (.arr r.maps.length 3 fun i => encMp (el r.maps i)) := hat.maps
  have hn4 : H n4 = some (.arr r.offers.length 4 fun i => encOf (el r.offers i)) := hat.offers
  have hn5 : H n5 = some (.arr r.complaints.length 6 fun i => encCo (el r.complaints i)) := hat.complaints
  have h0 := hy.hi box (by simp [Lay.locs])
  have e1g := fun d => freshG (l := box) (ck := ck) (c := ck + 1 + 1 + 1) (d := d) h0 (by omega)
  have hix := idx_in hs
  have hlt : place (r.namesOf 99) s < r.complaints.length := place_lt_of (f := Co.name) hs
  rcases hy.pre with q | ⟨u1, u2, q⟩
  · have q : pre = [] := q
    subst q
    have hbx : H box = some (.cells [.int .i64 r.day, .msl n0 0 r.types.length, .msl n1 0 r.houses.length, .msl n2 0 r.flights.length, .msl n3 0 r.maps.length, .msl n4 0 r.offers.length, .msl n5 0 r.complaints.length, .int .i64 r.fund]) := hat.box
    show CallT _ H ck 137 [.ptr box 0, .str s] Kn
    refine CallT.inline hX Proofs.Tryz.func137 rfl foll (D := D137) (by kernel_rfl) (tab [(66, indexC)]) (tab_ok ⟨oIndex_ok, trivial⟩) fun k1 => ?_
    simp only [Proofs.Tryz.f137]
    rw [app_mkT (Nat.le_of_ble_eq_true rfl)]
    simp (maxSteps := 400000) only [go_sem, ↓upXAbsY, ↓upXAbsZa, ↓upXOffC, hbx, hn0, hn1, hn2, hn3, hn4, hn5, frz_ptr, Nat.zero_add, hix, Int.toNat_natCast, e1g]
    exact ⟨⟨r, _, s, rfl, hr⟩, ⟨by omega, by omega⟩, hKn _ (by omega)⟩
  · have q : pre = [u1, u2] := q
    subst q
    have hbx : H box = some (.cells [u1, u2, .int .i64 r.day, .msl n0 0 r.types.length, .msl n1 0 r.houses.length, .msl n2 0 r.flights.length, .msl n3 0 r.maps.length, .msl n4 0 r.offers.length, .msl n5 0 r.complaints.length, .int .i64 r.fund]) := hat.box
    show CallT _ H ck 137 [.ptr box 2, .str s] Kn
    refine CallT.inline hX Proofs.Tryz.func137 rfl foll (D := D137) (by kernel_rfl) (tab [(66, indexC)]) (tab_ok ⟨oIndex_ok, trivial⟩) fun k1 => ?_
    simp only [Proofs.Tryz.f137]
    rw [app_mkT (Nat.le_of_ble_eq_true rfl)]
    simp (maxSteps := 400000) only [go_sem, ↓upXAbsY, ↓upXAbsZa, ↓upXOffC, hbx, hn0, hn1, hn2, hn3, hn4, hn5, frz_ptr, Nat.zero_add, hix, Int.toNat_natCast, e1g]
    exact ⟨⟨r, _, s, rfl, hr⟩, ⟨by omega, by omega⟩, hKn _ (by omega)⟩

end Go.Fly.Tryz
