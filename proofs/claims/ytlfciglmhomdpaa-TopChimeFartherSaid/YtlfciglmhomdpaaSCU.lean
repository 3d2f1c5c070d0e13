/- The law, from the data that a call is handed. -/
import Derived.Test.YtlfciglmhomdpaaSCF
import Derived.Test.YtlfciglmhomdpaaAU
import Derived.Test.YtlfciglmhomdpaaRows
import Derived.ProofKit
import Derived.LaidMore
import Derived.Stop.Joined
set_option linter.unusedSimpArgs false
set_option linter.unusedVariables false
set_option maxRecDepth 100000
namespace Go.Fly.Try
open Go Go.ChangeShapes Go.WideShapes Go.RowKit

theorem c3 : Proofs.Try.prog.cellsOf 3 = 1 := by kernel_rfl
theorem c9 : Proofs.Try.prog.cellsOf 9 = 1 := by kernel_rfl
theorem c22 : Proofs.Try.prog.cellsOf 22 = 1 := by kernel_rfl
theorem c23 : Proofs.Try.prog.cellsOf 23 = 8 := by kernel_rfl
theorem c24 : Proofs.Try.prog.cellsOf 24 = 1 := by kernel_rfl
theorem c56 : Proofs.Try.prog.cellsOf 56 = 2 := by kernel_rfl
theorem c26 : Proofs.Try.prog.cellsOf 26 = 13 := by kernel_rfl
theorem c29 : Proofs.Try.prog.cellsOf 29 = 3 := by kernel_rfl
theorem c31 : Proofs.Try.prog.cellsOf 31 = 2 := by kernel_rfl
theorem c33 : Proofs.Try.prog.cellsOf 33 = 6 := by kernel_rfl
theorem c35 : Proofs.Try.prog.cellsOf 35 = 9 := by kernel_rfl
theorem c38 : Proofs.Try.prog.cellsOf 38 = 1 := by kernel_rfl
theorem c50 : Proofs.Try.prog.cellsOf 50 = 2 := by kernel_rfl
theorem c61 : Proofs.Try.prog.cellsOf 61 = 5 := by kernel_rfl

theorem Reads.mono {P : Program} {W : World} {t : TypeId} {sz : Nat} {S S' : List V → Prop} (h : Reads P W t sz S) (hs : ∀ g, S g → S' g) : Reads P W t sz S' := fun H enc held fuel cs x hx => by
  obtain ⟨g, h1, h2, h3, h4, h5⟩ := h H enc held fuel cs x hx
  exact ⟨g, h1, h2, h3, h4, hs g h5⟩

def SI : List V → Prop := fun g => ∃ n, inK .i64 n ∧ g = [.int .i64 n]
def SInts : List V → Prop := fun g => ∃ n get, IsInts n get ∧ g = [.sl n 1 get]
def SStr : List V → Prop := fun g => ∃ s, s.length ≤ 9223372036854775807 ∧ g = [.str s]
theorem rI (W : World) : Reads Proofs.Try.prog W 3 1 SI := reads_int Proofs.Try.underlying3
theorem rStr (W : World) : Reads Proofs.Try.prog W 9 1 SStr := reads_str Proofs.Try.underlying9
theorem rInts (W : World) : Reads Proofs.Try.prog W 22 1 SInts := Reads.mono (reads_slice Proofs.Try.underlying22 c3 (by decide) (rI W)) fun g ⟨n, get, hn, hi, hg⟩ =>
  ⟨n, get, ⟨hn, fun i h => by obtain ⟨z, _, hz⟩ := hi i h; rw [hz]; simp [intAt, hz]⟩, hg⟩
theorem rPt (W : World) : Reads Proofs.Try.prog W 31 2 (Seq [(3, 1, SI), (3, 1, SI)]) :=
  reads_struct [(3, 1, SI), (3, 1, SI)] Proofs.Try.underlying31 c31 ⟨rI W, rI W, trivial⟩ fun tr cs h => by
    have h0 : tr 3 ((cs.drop 0).take (Proofs.Try.prog.cellsOf 3)) := h 0 _ rfl
    have h1 : tr 3 ((cs.drop 1).take (Proofs.Try.prog.cellsOf 3)) := h 1 _ rfl
    rw [c3] at h0
    rw [c3] at h1
    exact ⟨h0, h1, trivial⟩
theorem rIv (W : World) : Reads Proofs.Try.prog W 50 2 (Seq [(3, 1, SI), (3, 1, SI)]) :=
  reads_struct [(3, 1, SI), (3, 1, SI)] Proofs.Try.underlying50 c50 ⟨rI W, rI W, trivial⟩ fun tr cs h => by
    have h0 : tr 3 ((cs.drop 0).take (Proofs.Try.prog.cellsOf 3)) := h 0 _ rfl
    have h1 : tr 3 ((cs.drop 1).take (Proofs.Try.prog.cellsOf 3)) := h 1 _ rfl
    rw [c3] at h0
    rw [c3] at h1
    exact ⟨h0, h1, trivial⟩
theorem rVec (W : World) : Reads Proofs.Try.prog W 29 3 (Seq [(3, 1, SI), (3, 1, SI), (3, 1, SI)]) :=
  reads_struct [(3, 1, SI), (3, 1, SI), (3, 1, SI)] Proofs.Try.underlying29 c29 ⟨rI W, rI W, rI W, trivial⟩ fun tr cs h => by
    have h0 : tr 3 ((cs.drop 0).take (Proofs.Try.prog.cellsOf 3)) := h 0 _ rfl
    have h1 : tr 3 ((cs.drop 1).take (Proofs.Try.prog.cellsOf 3)) := h 1 _ rfl
    have h2 : tr 3 ((cs.drop 2).take (Proofs.Try.prog.cellsOf 3)) := h 2 _ rfl
    rw [c3] at h0
    rw [c3] at h1
    rw [c3] at h2
    exact ⟨h0, h1, h2, trivial⟩
def SIvs : List V → Prop := fun g => ∃ n get, IsIv n get ∧ g = [.sl n 2 get]
theorem rIvs (W : World) : Reads Proofs.Try.prog W 38 1 SIvs := Reads.mono (reads_slice Proofs.Try.underlying38 c50 (by decide) (rIv W)) fun g ⟨n, get, hn, hi, hg⟩ =>
  ⟨n, get, ⟨hn, fun i h => by
    obtain ⟨a, b, ⟨x, _, rfl⟩, ⟨c, d, ⟨y, _, rfl⟩, rfl, rfl⟩, e⟩ := hi i h
    rw [e]; simp [cell, e]⟩, hg⟩
theorem rLay (W : World) : Reads Proofs.Try.prog W 61 5 (Seq [(3, 1, SI), (3, 1, SI), (31, 2, Seq [(3, 1, SI), (3, 1, SI)]), (38, 1, SIvs)]) :=
  reads_struct [(3, 1, SI), (3, 1, SI), (31, 2, Seq [(3, 1, SI), (3, 1, SI)]), (38, 1, SIvs)] Proofs.Try.underlying61 c61 ⟨rI W, rI W, rPt W, rIvs W, trivial⟩ fun tr cs h => by
    have h0 : tr 3 ((cs.drop 0).take (Proofs.Try.prog.cellsOf 3)) := h 0 _ rfl
    have h1 : tr 3 ((cs.drop 1).take (Proofs.Try.prog.cellsOf 3)) := h 1 _ rfl
    have h2 : tr 31 ((cs.drop 2).take (Proofs.Try.prog.cellsOf 31)) := h 2 _ rfl
    have h3 : tr 38 ((cs.drop 4).take (Proofs.Try.prog.cellsOf 38)) := h 3 _ rfl
    rw [c3] at h0
    rw [c3] at h1
    rw [c31] at h2
    rw [c38] at h3
    exact ⟨h0, h1, h2, h3, trivial⟩
def SAir : List V → Prop := fun g => ∃ n get, IsAir n get ∧ g = [.sl n 5 get]
theorem rAirs (W : World) : Reads Proofs.Try.prog W 27 1 SAir := Reads.mono (reads_slice Proofs.Try.underlying27 c61 (by decide) (rLay W)) fun g ⟨n, get, hn, hi, hg⟩ =>
  ⟨n, get, ⟨hn, fun i h => by
    obtain ⟨_, _, ⟨x, _, rfl⟩, ⟨_, _, ⟨y, _, rfl⟩, ⟨_, _, ⟨_, _, ⟨u, _, rfl⟩, ⟨_, _, ⟨v, _, rfl⟩, rfl, rfl⟩, rfl⟩, ⟨_, _, ⟨m, gg, hm, rfl⟩, rfl, rfl⟩, rfl⟩, rfl⟩, e⟩ := hi i h
    have e1 : inN get i 4 = m := by simp [inN, e]
    have e2 : inG get i 4 = gg := by simp [inG, e]
    rw [e1, e2]
    refine ⟨?_, hm⟩
    rw [e]; simp [cell, e]⟩, hg⟩
theorem rSet (W : World) : Reads Proofs.Try.prog W 56 2 (Seq [(3, 1, SI), (22, 1, SInts)]) :=
  reads_struct [(3, 1, SI), (22, 1, SInts)] Proofs.Try.underlying56 c56 ⟨rI W, rInts W, trivial⟩ fun tr cs h => by
    have h0 : tr 3 ((cs.drop 0).take (Proofs.Try.prog.cellsOf 3)) := h 0 _ rfl
    have h1 : tr 22 ((cs.drop 1).take (Proofs.Try.prog.cellsOf 22)) := h 1 _ rfl
    rw [c3] at h0
    rw [c22] at h1
    exact ⟨h0, h1, trivial⟩
def SSets : List V → Prop := fun g => ∃ n get, IsSet n get ∧ g = [.sl n 2 get]
theorem rSets (W : World) : Reads Proofs.Try.prog W 24 1 SSets := Reads.mono (reads_slice Proofs.Try.underlying24 c56 (by decide) (rSet W)) fun g ⟨n, get, hn, hi, hg⟩ =>
  ⟨n, get, ⟨hn, fun i h => by
    obtain ⟨_, _, ⟨x, _, rfl⟩, ⟨_, _, ⟨m, gg, hm, rfl⟩, rfl, rfl⟩, e⟩ := hi i h
    have e1 : inN get i 1 = m := by simp [inN, e]
    have e2 : inG get i 1 = gg := by simp [inG, e]
    rw [e1, e2]
    refine ⟨?_, hm⟩
    rw [e]; simp [cell, e]⟩, hg⟩
theorem rDirs (W : World) : Reads Proofs.Try.prog W 23 8 (Seq [(3, 1, SI), (3, 1, SI), (3, 1, SI), (3, 1, SI), (3, 1, SI), (3, 1, SI), (3, 1, SI), (3, 1, SI)]) :=
  reads_array [(3, 1, SI), (3, 1, SI), (3, 1, SI), (3, 1, SI), (3, 1, SI), (3, 1, SI), (3, 1, SI), (3, 1, SI)] Proofs.Try.underlying23 c23 c3 ⟨rI W, rI W, rI W, rI W, rI W, rI W, rI W, rI W, trivial⟩ fun tr cs h =>
    ⟨h 0 (by decide), h 1 (by decide), h 2 (by decide), h 3 (by decide), h 4 (by decide), h 5 (by decide), h 6 (by decide), h 7 (by decide), trivial⟩
def SType : List V → Prop := fun g => ∃ s ns gs d0 d1 d2 d3 d4 d5 d6 d7 side nq gq m gt, s.length ≤ 9223372036854775807 ∧ IsInts ns gs ∧ IsInts nq gq ∧ IsSet m gt ∧
  g = [.str s, .sl ns 1 gs, .int .i64 d0, .int .i64 d1, .int .i64 d2, .int .i64 d3, .int .i64 d4, .int .i64 d5, .int .i64 d6, .int .i64 d7, .int .i64 side, .sl nq 1 gq, .sl m 2 gt]
theorem rType (W : World) : Reads Proofs.Try.prog W 26 13 SType :=
  Reads.mono (reads_struct [(9, 1, SStr), (22, 1, SInts), (23, 8, Seq [(3, 1, SI), (3, 1, SI), (3, 1, SI), (3, 1, SI), (3, 1, SI), (3, 1, SI), (3, 1, SI), (3, 1, SI)]), (3, 1, SI), (22, 1, SInts), (24, 1, SSets)] Proofs.Try.underlying26 c26
    ⟨rStr W, rInts W, rDirs W, rI W, rInts W, rSets W, trivial⟩ fun tr cs h => by
      have h0 : tr 9 ((cs.drop 0).take (Proofs.Try.prog.cellsOf 9)) := h 0 _ rfl
      have h1 : tr 22 ((cs.drop 1).take (Proofs.Try.prog.cellsOf 22)) := h 1 _ rfl
      have h2 : tr 23 ((cs.drop 2).take (Proofs.Try.prog.cellsOf 23)) := h 2 _ rfl
      have h3 : tr 3 ((cs.drop 10).take (Proofs.Try.prog.cellsOf 3)) := h 3 _ rfl
      have h4 : tr 22 ((cs.drop 11).take (Proofs.Try.prog.cellsOf 22)) := h 4 _ rfl
      have h5 : tr 24 ((cs.drop 12).take (Proofs.Try.prog.cellsOf 24)) := h 5 _ rfl
      rw [c9] at h0
      rw [c22] at h1
      rw [c23] at h2
      rw [c3] at h3
      rw [c22] at h4
      rw [c24] at h5
      exact ⟨h0, h1, h2, h3, h4, h5, trivial⟩) fun g hg => by
    obtain ⟨_, _, ⟨s, hs, rfl⟩, ⟨_, _, ⟨ns, gs, hns, rfl⟩, ⟨_, _, ⟨_, _, ⟨d0, _, rfl⟩, ⟨_, _, ⟨d1, _, rfl⟩, ⟨_, _, ⟨d2, _, rfl⟩, ⟨_, _, ⟨d3, _, rfl⟩, ⟨_, _, ⟨d4, _, rfl⟩, ⟨_, _, ⟨d5, _, rfl⟩, ⟨_, _, ⟨d6, _, rfl⟩, ⟨_, _, ⟨d7, _, rfl⟩, rfl, rfl⟩, rfl⟩, rfl⟩, rfl⟩, rfl⟩, rfl⟩, rfl⟩, rfl⟩,
      ⟨_, _, ⟨side, _, rfl⟩, ⟨_, _, ⟨nq, gq, hq, rfl⟩, ⟨_, _, ⟨m, gt, hm, rfl⟩, rfl, rfl⟩, rfl⟩, rfl⟩, rfl⟩, rfl⟩, rfl⟩ := hg
    exact ⟨s, ns, gs, d0, d1, d2, d3, d4, d5, d6, d7, side, nq, gq, m, gt, hs, hns, hq, hm, rfl⟩
theorem rState (W : World) : Reads Proofs.Try.prog W 33 6 (Seq [(29, 3, Seq [(3, 1, SI), (3, 1, SI), (3, 1, SI)]), (31, 2, Seq [(3, 1, SI), (3, 1, SI)]), (3, 1, SI)]) :=
  reads_struct [(29, 3, Seq [(3, 1, SI), (3, 1, SI), (3, 1, SI)]), (31, 2, Seq [(3, 1, SI), (3, 1, SI)]), (3, 1, SI)] Proofs.Try.underlying33 c33 ⟨rVec W, rPt W, rI W, trivial⟩ fun tr cs h => by
    have h0 : tr 29 ((cs.drop 0).take (Proofs.Try.prog.cellsOf 29)) := h 0 _ rfl
    have h1 : tr 31 ((cs.drop 3).take (Proofs.Try.prog.cellsOf 31)) := h 1 _ rfl
    have h2 : tr 3 ((cs.drop 5).take (Proofs.Try.prog.cellsOf 3)) := h 2 _ rfl
    rw [c29] at h0
    rw [c31] at h1
    rw [c3] at h2
    exact ⟨h0, h1, h2, trivial⟩
def SHeard : List V → Prop := fun g => ∃ x y z hx hy p ax ay az, inK .i64 z ∧ g = [.int .i64 x, .int .i64 y, .int .i64 z, .int .i64 hx, .int .i64 hy, .int .i64 p, .int .i64 ax, .int .i64 ay, .int .i64 az]
theorem rHeard (W : World) : Reads Proofs.Try.prog W 35 9 SHeard :=
  Reads.mono (reads_struct [(33, 6, Seq [(29, 3, Seq [(3, 1, SI), (3, 1, SI), (3, 1, SI)]), (31, 2, Seq [(3, 1, SI), (3, 1, SI)]), (3, 1, SI)]), (29, 3, Seq [(3, 1, SI), (3, 1, SI), (3, 1, SI)])] Proofs.Try.underlying35 c35 ⟨rState W, rVec W, trivial⟩ fun tr cs h => by
    have h0 : tr 33 ((cs.drop 0).take (Proofs.Try.prog.cellsOf 33)) := h 0 _ rfl
    have h1 : tr 29 ((cs.drop 6).take (Proofs.Try.prog.cellsOf 29)) := h 1 _ rfl
    rw [c33] at h0
    rw [c29] at h1
    exact ⟨h0, h1, trivial⟩) fun g hg => by
    obtain ⟨_, _, ⟨_, _, ⟨_, _, ⟨x, _, rfl⟩, ⟨_, _, ⟨y, _, rfl⟩, ⟨_, _, ⟨z, hz, rfl⟩, rfl, rfl⟩, rfl⟩, rfl⟩, ⟨_, _, ⟨_, _, ⟨hx, _, rfl⟩, ⟨_, _, ⟨hy, _, rfl⟩, rfl, rfl⟩, rfl⟩, ⟨_, _, ⟨p, _, rfl⟩, rfl, rfl⟩, rfl⟩, rfl⟩,
      ⟨_, _, ⟨_, _, ⟨ax, _, rfl⟩, ⟨_, _, ⟨ay, _, rfl⟩, ⟨_, _, ⟨az, _, rfl⟩, rfl, rfl⟩, rfl⟩, rfl⟩, rfl, rfl⟩, rfl⟩ := hg
    exact ⟨x, y, z, hx, hy, p, ax, ay, az, hz, rfl⟩
end Go.Fly.Try
