/- The law TopEaveThere, from the data that a call is handed. -/
import Derived.Test.YtfpoimbidpojnaaDoorSYEEI
import Derived.Test.YtfpoimbidpojnaaDoorAT
import Derived.Test.YtfpoimbidpojnaaDoorRows
import Derived.ProofKit
import Derived.LaidMore
import Derived.Stop.Joined
set_option linter.unusedSimpArgs false
set_option linter.unusedVariables false
set_option maxRecDepth 100000
namespace Go.Fly.Tryd
open Go Go.ChangeShapes Go.WideShapes Go.RowKit

theorem c3 : Proofs.Tryd.prog.cellsOf 3 = 1 := by kernel_rfl
theorem c9 : Proofs.Tryd.prog.cellsOf 9 = 1 := by kernel_rfl
theorem c22 : Proofs.Tryd.prog.cellsOf 22 = 1 := by kernel_rfl
theorem c23 : Proofs.Tryd.prog.cellsOf 23 = 1 := by kernel_rfl
theorem c24 : Proofs.Tryd.prog.cellsOf 24 = 1 := by kernel_rfl
theorem c31 : Proofs.Tryd.prog.cellsOf 31 = 1 := by kernel_rfl
theorem c144 : Proofs.Tryd.prog.cellsOf 144 = 1 := by kernel_rfl
theorem c36 : Proofs.Tryd.prog.cellsOf 36 = 2 := by kernel_rfl
theorem c51 : Proofs.Tryd.prog.cellsOf 51 = 2 := by kernel_rfl
theorem c101 : Proofs.Tryd.prog.cellsOf 101 = 2 := by kernel_rfl
theorem c26 : Proofs.Tryd.prog.cellsOf 26 = 3 := by kernel_rfl
theorem c152 : Proofs.Tryd.prog.cellsOf 152 = 3 := by kernel_rfl
theorem c74 : Proofs.Tryd.prog.cellsOf 74 = 5 := by kernel_rfl
theorem c98 : Proofs.Tryd.prog.cellsOf 98 = 7 := by kernel_rfl
theorem c28 : Proofs.Tryd.prog.cellsOf 28 = 10 := by kernel_rfl
theorem c153 : Proofs.Tryd.prog.cellsOf 153 = 12 := by kernel_rfl

theorem Reads.mono {P : Program} {W : World} {t : TypeId} {sz : Nat} {S S' : List V → Prop} (h : Reads P W t sz S) (hs : ∀ g, S g → S' g) : Reads P W t sz S' := fun H enc held fuel cs x hx => by
  obtain ⟨g, h1, h2, h3, h4, h5⟩ := h H enc held fuel cs x hx
  exact ⟨g, h1, h2, h3, h4, hs g h5⟩

def SI : List V → Prop := fun g => ∃ n, inK .i64 n ∧ g = [.int .i64 n]
def SStr : List V → Prop := fun g => ∃ s, s.length ≤ 9223372036854775807 ∧ g = [.str s]
theorem rI (W : World) : Reads Proofs.Tryd.prog W 3 1 SI := reads_int Proofs.Tryd.underlying3
theorem rStr (W : World) : Reads Proofs.Tryd.prog W 9 1 SStr := reads_str Proofs.Tryd.underlying9
theorem rPt (W : World) : Reads Proofs.Tryd.prog W 51 2 (Seq [(3, 1, SI), (3, 1, SI)]) :=
  reads_struct [(3, 1, SI), (3, 1, SI)] Proofs.Tryd.underlying51 c51 ⟨rI W, rI W, trivial⟩ fun tr cs h => by
    have h0 : tr 3 ((cs.drop 0).take (Proofs.Tryd.prog.cellsOf 3)) := h 0 _ rfl
    have h1 : tr 3 ((cs.drop 1).take (Proofs.Tryd.prog.cellsOf 3)) := h 1 _ rfl
    rw [c3] at h0
    rw [c3] at h1
    exact ⟨h0, h1, trivial⟩
theorem rIv (W : World) : Reads Proofs.Tryd.prog W 36 2 (Seq [(3, 1, SI), (3, 1, SI)]) :=
  reads_struct [(3, 1, SI), (3, 1, SI)] Proofs.Tryd.underlying36 c36 ⟨rI W, rI W, trivial⟩ fun tr cs h => by
    have h0 : tr 3 ((cs.drop 0).take (Proofs.Tryd.prog.cellsOf 3)) := h 0 _ rfl
    have h1 : tr 3 ((cs.drop 1).take (Proofs.Tryd.prog.cellsOf 3)) := h 1 _ rfl
    rw [c3] at h0
    rw [c3] at h1
    exact ⟨h0, h1, trivial⟩
theorem rStep (W : World) : Reads Proofs.Tryd.prog W 101 2 (Seq [(3, 1, SI), (3, 1, SI)]) :=
  reads_struct [(3, 1, SI), (3, 1, SI)] Proofs.Tryd.underlying101 c101 ⟨rI W, rI W, trivial⟩ fun tr cs h => by
    have h0 : tr 3 ((cs.drop 0).take (Proofs.Tryd.prog.cellsOf 3)) := h 0 _ rfl
    have h1 : tr 3 ((cs.drop 1).take (Proofs.Tryd.prog.cellsOf 3)) := h 1 _ rfl
    rw [c3] at h0
    rw [c3] at h1
    exact ⟨h0, h1, trivial⟩
theorem rVec (W : World) : Reads Proofs.Tryd.prog W 26 3 (Seq [(3, 1, SI), (3, 1, SI), (3, 1, SI)]) :=
  reads_struct [(3, 1, SI), (3, 1, SI), (3, 1, SI)] Proofs.Tryd.underlying26 c26 ⟨rI W, rI W, rI W, trivial⟩ fun tr cs h => by
    have h0 : tr 3 ((cs.drop 0).take (Proofs.Tryd.prog.cellsOf 3)) := h 0 _ rfl
    have h1 : tr 3 ((cs.drop 1).take (Proofs.Tryd.prog.cellsOf 3)) := h 1 _ rfl
    have h2 : tr 3 ((cs.drop 2).take (Proofs.Tryd.prog.cellsOf 3)) := h 2 _ rfl
    rw [c3] at h0
    rw [c3] at h1
    rw [c3] at h2
    exact ⟨h0, h1, h2, trivial⟩
def SIvs : List V → Prop := fun g => ∃ n get, IsIv n get ∧ g = [.sl n 2 get]
theorem rIvs (W : World) : Reads Proofs.Tryd.prog W 31 1 SIvs := Reads.mono (reads_slice Proofs.Tryd.underlying31 c36 (by decide) (rIv W)) fun g ⟨n, get, hn, hi, hg⟩ =>
  ⟨n, get, ⟨hn, fun i h => by
    obtain ⟨a, b, ⟨x, _, rfl⟩, ⟨c, d, ⟨y, _, rfl⟩, rfl, rfl⟩, e⟩ := hi i h
    rw [e]; simp [cell, e]⟩, hg⟩
theorem rSteps (W : World) : Reads Proofs.Tryd.prog W 23 1 SIvs := Reads.mono (reads_slice Proofs.Tryd.underlying23 c101 (by decide) (rStep W)) fun g ⟨n, get, hn, hi, hg⟩ =>
  ⟨n, get, ⟨hn, fun i h => by
    obtain ⟨a, b, ⟨x, _, rfl⟩, ⟨c, d, ⟨y, _, rfl⟩, rfl, rfl⟩, e⟩ := hi i h
    rw [e]; simp [cell, e]⟩, hg⟩
theorem rLay (W : World) : Reads Proofs.Tryd.prog W 74 5 (Seq [(3, 1, SI), (3, 1, SI), (51, 2, Seq [(3, 1, SI), (3, 1, SI)]), (31, 1, SIvs)]) :=
  reads_struct [(3, 1, SI), (3, 1, SI), (51, 2, Seq [(3, 1, SI), (3, 1, SI)]), (31, 1, SIvs)] Proofs.Tryd.underlying74 c74 ⟨rI W, rI W, rPt W, rIvs W, trivial⟩ fun tr cs h => by
    have h0 : tr 3 ((cs.drop 0).take (Proofs.Tryd.prog.cellsOf 3)) := h 0 _ rfl
    have h1 : tr 3 ((cs.drop 1).take (Proofs.Tryd.prog.cellsOf 3)) := h 1 _ rfl
    have h2 : tr 51 ((cs.drop 2).take (Proofs.Tryd.prog.cellsOf 51)) := h 2 _ rfl
    have h3 : tr 31 ((cs.drop 4).take (Proofs.Tryd.prog.cellsOf 31)) := h 3 _ rfl
    rw [c3] at h0
    rw [c3] at h1
    rw [c51] at h2
    rw [c31] at h3
    exact ⟨h0, h1, h2, h3, trivial⟩
def SAir : List V → Prop := fun g => ∃ n get, IsAir n get ∧ g = [.sl n 5 get]
theorem rAirs (W : World) : Reads Proofs.Tryd.prog W 24 1 SAir := Reads.mono (reads_slice Proofs.Tryd.underlying24 c74 (by decide) (rLay W)) fun g ⟨n, get, hn, hi, hg⟩ =>
  ⟨n, get, ⟨hn, fun i h => by
    obtain ⟨_, _, ⟨x, _, rfl⟩, ⟨_, _, ⟨y, _, rfl⟩, ⟨_, _, ⟨_, _, ⟨u, _, rfl⟩, ⟨_, _, ⟨v, _, rfl⟩, rfl, rfl⟩, rfl⟩, ⟨_, _, ⟨m, gg, hm, rfl⟩, rfl, rfl⟩, rfl⟩, rfl⟩, e⟩ := hi i h
    have e1 : inN get i 4 = m := by simp [inN, e]
    have e2 : inG get i 4 = gg := by simp [inG, e]
    rw [e1, e2]
    refine ⟨?_, hm⟩
    rw [e]; simp [cell, e]⟩, hg⟩
theorem rWall (W : World) : Reads Proofs.Tryd.prog W 98 7 (Seq [(9, 1, SStr), (51, 2, Seq [(3, 1, SI), (3, 1, SI)]), (51, 2, Seq [(3, 1, SI), (3, 1, SI)]), (3, 1, SI), (3, 1, SI)]) :=
  reads_struct [(9, 1, SStr), (51, 2, Seq [(3, 1, SI), (3, 1, SI)]), (51, 2, Seq [(3, 1, SI), (3, 1, SI)]), (3, 1, SI), (3, 1, SI)] Proofs.Tryd.underlying98 c98 ⟨rStr W, rPt W, rPt W, rI W, rI W, trivial⟩ fun tr cs h => by
    have h0 : tr 9 ((cs.drop 0).take (Proofs.Tryd.prog.cellsOf 9)) := h 0 _ rfl
    have h1 : tr 51 ((cs.drop 1).take (Proofs.Tryd.prog.cellsOf 51)) := h 1 _ rfl
    have h2 : tr 51 ((cs.drop 3).take (Proofs.Tryd.prog.cellsOf 51)) := h 2 _ rfl
    have h3 : tr 3 ((cs.drop 5).take (Proofs.Tryd.prog.cellsOf 3)) := h 3 _ rfl
    have h4 : tr 3 ((cs.drop 6).take (Proofs.Tryd.prog.cellsOf 3)) := h 4 _ rfl
    rw [c9] at h0
    rw [c51] at h1
    rw [c51] at h2
    rw [c3] at h3
    rw [c3] at h4
    exact ⟨h0, h1, h2, h3, h4, trivial⟩
def SWalls : List V → Prop := fun g => ∃ n get, IsWalls n get ∧ g = [.sl n 7 get]
theorem rWalls (W : World) : Reads Proofs.Tryd.prog W 22 1 SWalls := Reads.mono (reads_slice Proofs.Tryd.underlying22 c98 (by decide) (rWall W)) fun g ⟨n, get, hn, hi, hg⟩ =>
  ⟨n, get, ⟨hn, fun i h => by
    obtain ⟨_, _, ⟨s, hs, rfl⟩, ⟨_, _, ⟨_, _, ⟨x, _, rfl⟩, ⟨_, _, ⟨y, _, rfl⟩, rfl, rfl⟩, rfl⟩, ⟨_, _, ⟨_, _, ⟨u, _, rfl⟩, ⟨_, _, ⟨v, _, rfl⟩, rfl, rfl⟩, rfl⟩, ⟨_, _, ⟨p, _, rfl⟩, ⟨_, _, ⟨q, _, rfl⟩, rfl, rfl⟩, rfl⟩, rfl⟩, rfl⟩, e⟩ := hi i h
    have e1 : wName get i = s := by simp [wName, e]
    rw [e1]
    refine ⟨?_, hs⟩
    rw [e]; simp [cell, e]⟩, hg⟩
theorem rTown0 (W : World) : Reads Proofs.Tryd.prog W 28 10 (Seq [(22, 1, SWalls), (23, 1, SIvs), (24, 1, SAir), (26, 3, Seq [(3, 1, SI), (3, 1, SI), (3, 1, SI)]), (26, 3, Seq [(3, 1, SI), (3, 1, SI), (3, 1, SI)]), (3, 1, SI)]) :=
  reads_struct [(22, 1, SWalls), (23, 1, SIvs), (24, 1, SAir), (26, 3, Seq [(3, 1, SI), (3, 1, SI), (3, 1, SI)]), (26, 3, Seq [(3, 1, SI), (3, 1, SI), (3, 1, SI)]), (3, 1, SI)] Proofs.Tryd.underlying28 c28 ⟨rWalls W, rSteps W, rAirs W, rVec W, rVec W, rI W, trivial⟩ fun tr cs h => by
    have h0 : tr 22 ((cs.drop 0).take (Proofs.Tryd.prog.cellsOf 22)) := h 0 _ rfl
    have h1 : tr 23 ((cs.drop 1).take (Proofs.Tryd.prog.cellsOf 23)) := h 1 _ rfl
    have h2 : tr 24 ((cs.drop 2).take (Proofs.Tryd.prog.cellsOf 24)) := h 2 _ rfl
    have h3 : tr 26 ((cs.drop 3).take (Proofs.Tryd.prog.cellsOf 26)) := h 3 _ rfl
    have h4 : tr 26 ((cs.drop 6).take (Proofs.Tryd.prog.cellsOf 26)) := h 4 _ rfl
    have h5 : tr 3 ((cs.drop 9).take (Proofs.Tryd.prog.cellsOf 3)) := h 5 _ rfl
    rw [c22] at h0
    rw [c23] at h1
    rw [c24] at h2
    rw [c26] at h3
    rw [c26] at h4
    rw [c3] at h5
    exact ⟨h0, h1, h2, h3, h4, h5, trivial⟩
def STown : List V → Prop := fun g => ∃ nw gw nt gt na ga a b c d e f en, IsWalls nw gw ∧ IsIv nt gt ∧ IsAir na ga ∧
  g = [.sl nw 7 gw, .sl nt 2 gt, .sl na 5 ga, .int .i64 a, .int .i64 b, .int .i64 c, .int .i64 d, .int .i64 e, .int .i64 f, .int .i64 en]
theorem rTown (W : World) : Reads Proofs.Tryd.prog W 28 10 STown := Reads.mono (rTown0 W) fun g hg => by
  obtain ⟨_, _, ⟨nw, gw, hw, rfl⟩, ⟨_, _, ⟨nt, gt, ht, rfl⟩, ⟨_, _, ⟨na, ga, ha, rfl⟩, ⟨_, _, ⟨_, _, ⟨a, _, rfl⟩, ⟨_, _, ⟨b, _, rfl⟩, ⟨_, _, ⟨c, _, rfl⟩, rfl, rfl⟩, rfl⟩, rfl⟩, ⟨_, _, ⟨_, _, ⟨d, _, rfl⟩, ⟨_, _, ⟨e, _, rfl⟩, ⟨_, _, ⟨f, _, rfl⟩, rfl, rfl⟩, rfl⟩, rfl⟩, ⟨_, _, ⟨en, _, rfl⟩, rfl, rfl⟩, rfl⟩, rfl⟩, rfl⟩, rfl⟩, rfl⟩ := hg
  exact ⟨nw, gw, nt, gt, na, ga, a, b, c, d, e, f, en, hw, ht, ha, rfl⟩
end Go.Fly.Tryd
