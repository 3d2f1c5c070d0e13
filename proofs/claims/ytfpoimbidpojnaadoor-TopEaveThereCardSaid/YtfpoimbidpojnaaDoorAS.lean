/- Part of a proof: an evaluator of the model's code by abstract values, and plain laws for it. No conditions. -/
import Derived.Test.YtfpoimbidpojnaaDoorAR
set_option linter.unusedSimpArgs false
set_option linter.unusedVariables false
/- The law on walls there and back: its plain part. -/
namespace Go.Fly
open Go
theorem wDepth_sym (get : Nat → List V) (a b c d e f : Int) (i : Nat) : wDepth get d e f a b c i = wDepth get a b c d e f i := depth_sym ..
theorem wDepth_fun (get : Nat → List V) (a b c d e f : Int) : wDepth get d e f a b c = wDepth get a b c d e f := funext fun i => wDepth_sym ..
theorem scrF_sym (n : Nat) (get : Nat → List V) (nt : Nat) (gt : Nat → List V) (a b c d e f : Int) : scrF n get nt gt d e f a b c = scrF n get nt gt a b c d e f := by
  unfold scrF; rw [wDepth_fun]
theorem eavLo_sym (n : Nat) (get : Nat → List V) (nt : Nat) (gt : Nat → List V) (na : Nat) (ga : Nat → List V) (a b c d e f en : Int) (k : Nat) :
    eavLo n get nt gt na ga d e f a b c en k = eavLo n get nt gt na ga a b c d e f en k := by
  unfold eavLo; rw [scrF_sym, pLo_sym]
theorem eavHi_sym (n : Nat) (get : Nat → List V) (nt : Nat) (gt : Nat → List V) (na : Nat) (ga : Nat → List V) (a b c d e f en : Int) (k : Nat) :
    eavHi n get nt gt na ga d e f a b c en k = eavHi n get nt gt na ga a b c d e f en k := by
  unfold eavHi; rw [scrF_sym, pHi_sym]
theorem wDepth_nn (get : Nat → List V) (a b c d e f : Int) (i : Nat) : 0 ≤ wDepth get a b c d e f i := depth_nn ..
theorem sumI_mono {f g : Nat → Int} : ∀ {n : Nat}, (∀ i, i < n → f i ≤ g i) → sumI f n ≤ sumI g n
  | 0, _ => Int.le_refl _
  | n + 1, h => by
    have a := sumI_mono (n := n) fun i hi => h i (by omega)
    have b := h n (by omega)
    simp only [sumI]; omega
theorem sumI_split {f : Nat → Int} (m : Nat) : ∀ (k : Nat), sumI f (m + k) = sumI f m + sumI (fun j => f (m + j)) k
  | 0 => by simp [sumI]
  | k + 1 => by
    have := sumI_split (f := f) m k
    show sumI f (m + k + 1) = _
    simp only [sumI]; omega
/-- A list without one of its elements. -/
def dropG (get : Nat → List V) (i : Nat) (j : Nat) : List V := if j < i then get j else get (i + 1 + (j - i))
theorem dropG_lt {get : Nat → List V} {i j : Nat} (h : j < i) : dropG get i j = get j := if_pos h
theorem dropG_ge {get : Nat → List V} {i j : Nat} (h : ¬ j < i) : dropG get i j = get (i + 1 + (j - i)) := if_neg h
theorem drop_src (get : Nat → List V) (i j : Nat) : ∃ k, dropG get i j = get k ∧ (j < i → k = j) ∧ (¬ j < i → k = j + 1) := by
  by_cases h : j < i
  · exact ⟨j, dropG_lt h, fun _ => rfl, fun q => absurd h q⟩
  · exact ⟨i + 1 + (j - i), dropG_ge h, fun q => absurd q h, fun _ => by omega⟩
theorem isWalls_drop {n : Nat} {get : Nat → List V} {i : Nat} (hi : i < n) (h : IsWalls n get) : IsWalls (n - 1) (dropG get i) := by
  refine ⟨by have := h.1; omega, fun j hj => ?_⟩
  obtain ⟨k, hk, h1, h2⟩ := drop_src get i j
  have hkn : k < n := by
    by_cases q : j < i
    · have := h1 q; omega
    · have := h2 q; omega
  have := h.2 k hkn
  unfold wName cell at this ⊢
  rw [hk]
  exact this
theorem wallsOk_drop {n : Nat} {get : Nat → List V} {i : Nat} (hi : i < n) (h : WallsOk n get) : WallsOk (n - 1) (dropG get i) := by
  have hw : ∀ j k, dropG get i j = get k → wName (dropG get i) j = wName get k ∧ ∀ m, cell (dropG get i) j m = cell get k m := fun j k e => by
    unfold wName cell; rw [e]; exact ⟨rfl, fun _ => rfl⟩
  refine ⟨by have := h.cnt; omega, fun j hj => ?_, fun j k hj hk => ?_⟩
  · obtain ⟨k, e, h1, h2⟩ := drop_src get i j
    have hkn : k < n := by
      by_cases q : j < i
      · have := h1 q; omega
      · have := h2 q; omega
    obtain ⟨e1, e2⟩ := hw j k e
    rw [e1, e2, e2, e2, e2, e2, e2]
    exact h.wall k hkn
  · obtain ⟨p, e, h1, h2⟩ := drop_src get i j
    obtain ⟨q, e', h1', h2'⟩ := drop_src get i k
    rw [(hw j p e).1, (hw k q e').1]
    refine h.two p q ?_ ?_
    · by_cases r : j < i
      · have := h1 r; omega
      · have := h2 r; omega
    · by_cases r : j < i
      · have := h1 r
        by_cases r' : k < i
        · have := h1' r'; omega
        · omega
      · have := h2 r
        by_cases r' : k < i
        · have := h1' r'; omega
        · have := h2' r'; omega
theorem wDepth_drop (get : Nat → List V) (i : Nat) (a b c d e f : Int) (j : Nat) : wDepth (dropG get i) a b c d e f j = if j < i then wDepth get a b c d e f j else wDepth get a b c d e f (j + 1) := by
  obtain ⟨k, hk, h1, h2⟩ := drop_src get i j
  have : wDepth (dropG get i) a b c d e f j = wDepth get a b c d e f k := by unfold wDepth cell; rw [hk]
  rw [this]
  by_cases h : j < i
  · rw [if_pos h, h1 h]
  · rw [if_neg h, h2 h]
theorem sum_drop {f : Nat → Int} {n i : Nat} (hi : i < n) (h0 : 0 ≤ f i) : sumI (fun j => if j < i then f j else f (j + 1)) (n - 1) ≤ sumI f n := by
  obtain ⟨m, rfl⟩ : ∃ m, n = i + 1 + m := ⟨n - (i + 1), by omega⟩
  have e1 : i + 1 + m - 1 = i + m := by omega
  rw [e1, sumI_split i m, sumI_split (i + 1) m]
  have e2 : sumI (fun j => if j < i then f j else f (j + 1)) i = sumI f i := sumI_congr fun j hj => if_pos hj
  have e3 : sumI (fun j => (fun j => if j < i then f j else f (j + 1)) (i + j)) m = sumI (fun j => f (i + 1 + j)) m := sumI_congr fun j hj => by
    show (if i + j < i then f (i + j) else f (i + j + 1)) = _
    rw [if_neg (by omega)]; congr 1; omega
  rw [e2, e3]
  have e4 : sumI f (i + 1) = sumI f i + f i := rfl
  rw [e4]
  omega
/-- Fewer walls leave no less. -/
theorem eav_less {n : Nat} {get : Nat → List V} {n' : Nat} {get' : Nat → List V} {nt : Nat} {gt : Nat → List V} {na : Nat} {ga : Nat → List V} {a b c d e f en : Int} (ht : TabOk2 nt gt) (hae : airE na ga = 0) (hp : PathOk a b c d e f) (he : 0 ≤ en) {k : Nat} (hk : k < inN ga 0 4)
    (h : sumI (wDepth get' a b c d e f) n' ≤ sumI (wDepth get a b c d e f) n) :
    eavLo n get nt gt na ga a b c d e f en k ≤ eavLo n' get' nt gt na ga a b c d e f en k ∧ eavHi n get nt gt na ga a b c d e f en k ≤ eavHi n' get' nt gt na ga a b c d e f en k := by
  have hok := airE_ok hae
  have hpb := p_bd (k := k) hok hp hk
  have hm : scrF n get nt gt a b c d e f ≤ scrF n' get' nt gt a b c d e f := fac_mono ht h (Nat.le_refl _)
  have hs := scr_mono (e := en) he hm
  have hb := scr_bd (e := en) he (fac_bd ht (sumI (wDepth get a b c d e f) n) (Nat.le_refl nt)).1 (fac_bd ht (sumI (wDepth get a b c d e f) n) (Nat.le_refl nt)).2
  have hb2 : 0 ≤ scrLo en (scrF n get nt gt a b c d e f) ∧ 0 ≤ scrHi en (scrF n get nt gt a b c d e f) := ⟨hb.1, by have := hb.2.1; have := hb.1; unfold scrF; omega⟩
  unfold eavLo eavHi
  have m1 := arr_mono hb2.1 hs.1 hpb.1 (Int.le_refl _)
  have m2 := arr_mono hb2.2 hs.2 (p := pHi na ga a b c d e f k) (by omega) (Int.le_refl _)
  exact ⟨m1.1, m2.2⟩
/-- What arrives is an interval, never more than the energy. -/
theorem eav_bd {n : Nat} {get : Nat → List V} {nt : Nat} {gt : Nat → List V} {na : Nat} {ga : Nat → List V} {a b c d e f en : Int} (ht : TabOk2 nt gt) (hae : airE na ga = 0) (hp : PathOk a b c d e f) (he : 0 ≤ en) {k : Nat} (hk : k < inN ga 0 4) :
    0 ≤ eavLo n get nt gt na ga a b c d e f en k ∧ eavLo n get nt gt na ga a b c d e f en k ≤ eavHi n get nt gt na ga a b c d e f en k ∧ eavHi n get nt gt na ga a b c d e f en k ≤ en := by
  have hok := airE_ok hae
  have hpb := p_bd (k := k) hok hp hk
  have hb := scr_bd (e := en) he (fac_bd ht (sumI (wDepth get a b c d e f) n) (Nat.le_refl nt)).1 (fac_bd ht (sumI (wDepth get a b c d e f) n) (Nat.le_refl nt)).2
  have hb : 0 ≤ scrLo en (scrF n get nt gt a b c d e f) ∧ scrLo en (scrF n get nt gt a b c d e f) ≤ scrHi en (scrF n get nt gt a b c d e f) ∧ scrHi en (scrF n get nt gt a b c d e f) ≤ en := hb
  have b1 := arr_bd hb.1 hpb.1 hpb.2.1 hpb.2.2
  have b2 := arr_bd (e := scrHi en (scrF n get nt gt a b c d e f)) (by omega) hpb.1 hpb.2.1 hpb.2.2
  have m1 := arr_mono (p := pHi na ga a b c d e f k) (p' := pHi na ga a b c d e f k) hb.1 hb.2.1 (by omega) (Int.le_refl _)
  unfold eavLo eavHi
  omega
theorem sum_none (a b c d e f : Int) : sumI (wDepth (fun _ => []) a b c d e f) 0 = 0 := rfl
def thereC : Contract := fun _ args =>
  match args with
  | [.agg [.sl nw sw gw, .sl nt st gt, .sl na sa ga, .int .i64 a, .int .i64 b, .int .i64 c, .int .i64 d, .int .i64 e, .int .i64 f, .int .i64 en], .int .u8 m] =>
    ⟨(sw = 7 ∧ st = 2 ∧ sa = 5) ∧ IsWalls nw gw ∧ IsIv nt gt ∧ IsAir na ga ∧ 0 ≤ m ∧ m ≤ 255, .bool true, none⟩
  | _ => ⟨False, .top, none⟩
attribute [go_sem] thereC
end Go.Fly
