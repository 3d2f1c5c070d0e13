/- Part of a proof: an evaluator of the model's code by abstract values, and plain laws for it. No conditions. -/
import Derived.Test.YtmlknpghkclffaaGreatDoorAU
set_option linter.unusedSimpArgs false
set_option linter.unusedVariables false
section
/- Closed facts of the law's fixed examples. -/
namespace Go.Fly
open Go
theorem aw_f1 : latE 2 twoA 99 = 0 := by kernel_rfl
theorem aw_f2 : atE 2 twoA 99 = 0 := by kernel_rfl
theorem aw_f3 : latE 2 twoA 5000 = 0 := by kernel_rfl
theorem aw_f4 : atE 2 twoA 5000 = 1 := by kernel_rfl
theorem aw_f5 : splE 2 twoA 40 = 0 := by kernel_rfl
theorem aw_f6 : pathE 0 0 0 300 400 0 = 0 := by kernel_rfl
theorem aw_f7 : rootE (sqE 0 0 0 300 400 0) 1 = 500 := by kernel_rfl
theorem aw_f8 : rootUp (sqE 0 0 0 300 400 0) 1 = 500 := by kernel_rfl
theorem aw_f9 : checkE 2 twoA 0 0 0 300 400 0 = 0 := by kernel_rfl
theorem aw_f10 : checkE 2 twoA 0 0 0 0 0 150 = 0 := by kernel_rfl
theorem aw_f11 : inN twoA 0 4 = 1 := by kernel_rfl
theorem aw_g1 : arr3E 2 twoA 0 0 0 100 0 0 1 (rowAt [.int .i64 1001] 1) = 0 := by kernel_rfl
theorem aw_g2 : em3E 2 twoA 0 0 0 100 0 0 1 (rowAt [.int .i64 900, .int .i64 900] 2) = 0 := by kernel_rfl
theorem aw_g3 : tot3E 2 twoA 0 0 0 100 0 0 1 (rowAt [.int .i64 1000] 1) = 0 := by kernel_rfl
theorem aw_s1 : sameG 2 (fun i => [.int .i64 (stLo 2 twoA (sqE 0 0 0 300 400 0) (min 0 0) (max 0 0) 0 0 0 i), .int .i64 (stHi 2 twoA (sqE 0 0 0 300 400 0) (min 0 0) (max 0 0) 0 0 0 i)]) 2 (fun i => rowAt [.int .i64 5, .int .i64 5, .int .i64 0, .int .i64 0] 2 (0 + i)) = true := by kernel_rfl
theorem aw_s2 : sameG 1 (fun k => [.int .i64 (qLo 2 twoA (sqE 0 0 0 300 400 0) (min 0 0) (max 0 0) 0 0 0 k), .int .i64 (qHi 2 twoA (sqE 0 0 0 300 400 0) (min 0 0) (max 0 0) 0 0 0 k)]) 1 (fun i => rowAt [.int .i64 590, .int .i64 776] 2 (0 + i)) = true := by kernel_rfl
theorem aw_s3 : sameG 2 (fun i => [.int .i64 (stLo 2 twoA (sqE 0 0 0 0 0 150) (min 0 150) (max 0 150) 0 0 0 i), .int .i64 (stHi 2 twoA (sqE 0 0 0 0 0 150) (min 0 150) (max 0 150) 0 0 0 i)]) 2 (fun i => rowAt [.int .i64 1, .int .i64 1, .int .i64 0, .int .i64 1] 2 (0 + i)) = true := by kernel_rfl
theorem aw_s4 : sameG 1 (fun k => [.int .i64 (qLo 2 twoA (sqE 0 0 0 0 0 150) (min 0 150) (max 0 150) 0 0 0 k), .int .i64 (qHi 2 twoA (sqE 0 0 0 0 0 150) (min 0 150) (max 0 150) 0 0 0 k)]) 1 (fun i => rowAt [.int .i64 720, .int .i64 950] 2 (0 + i)) = true := by kernel_rfl
theorem aw_s5 : sameG 1 (fun i => [.int .i64 (arrLo (intAt (rowAt [.int .i64 1001] 1) i) (dLo 2 twoA 0 0 0 100 0 0 i)), .int .i64 (arrHi (intAt (rowAt [.int .i64 1001] 1) i) (dHi 2 twoA 0 0 0 100 0 0 i))]) 1 (fun i => rowAt [.int .i64 900, .int .i64 951] 2 (0 + i)) = true := by kernel_rfl
theorem aw_s6 : sameG 1 (fun i => [.int .i64 (emA 2 twoA 0 0 0 100 0 0 (rowAt [.int .i64 900, .int .i64 900] 2) i), .int .i64 (emB 2 twoA 0 0 0 100 0 0 (rowAt [.int .i64 900, .int .i64 900] 2) i)]) 1 (fun i => rowAt [.int .i64 948, .int .i64 1000] 2 (0 + i)) = true := by kernel_rfl
theorem aw_h1 : repG twoA (splV 2 twoA 40) (splI 2 twoA 40) 0 = [.int .i64 40, .int .i64 340, .int .i64 0, .int .i64 0, .sl 1 2 twoP] := by kernel_rfl
theorem aw_h2 : repG twoA (splV 2 twoA 40) (splI 2 twoA 40) 1 = [.int .i64 60, .int .i64 340, .int .i64 0, .int .i64 0, .sl 1 2 twoP] := by kernel_rfl
theorem aw_h3 : repG twoA (splV 2 twoA 40) (splI 2 twoA 40) 2 = [.int .i64 50, .int .i64 341, .int .i64 10, .int .i64 0, .sl 1 2 twoQ] := by kernel_rfl
theorem aw_rep : IsAir 3 (repG twoA (splV 2 twoA 40) (splI 2 twoA 40)) := ⟨by decide, fun i hi => by
  have h : i = 0 ∨ i = 1 ∨ i = 2 := by omega
  rcases h with rfl | rfl | rfl
  · exact ⟨rfl, twoP_is⟩
  · exact ⟨rfl, twoP_is⟩
  · exact ⟨rfl, twoQ_is⟩⟩
end Go.Fly
end
section
/- Closed facts of the law's fixed examples: the second half. -/
namespace Go.Fly
open Go
theorem orE_7 {z g : V} : orE 7 z g = .tup [z, .int .i64 7] := rfl
theorem ay_1 : cmp3E 2 twoA 1 0 1 0 = 0 := by kernel_rfl
theorem ay_2 : cmpV twoA 1 0 1 0 = 1 := by kernel_rfl
theorem ay_3 : cmp3E 2 twoA 1 0 (-1) 0 = 0 := by kernel_rfl
theorem ay_4 : cmpV twoA 1 0 (-1) 0 = -1 := by kernel_rfl
theorem ay_5 : checkE 2 twoA 0 0 150 5000 0 10 = 0 := by kernel_rfl
theorem ay_6 : bentE 2 twoA 0 0 150 5000 0 10 = 1 := by kernel_rfl
theorem ay_7 : checkE 2 twoA 5000 0 150 0 0 10 = 0 := by kernel_rfl
theorem ay_8 : bentE 2 twoA 5000 0 150 0 0 10 = -1 := by kernel_rfl
theorem ay_9 : shadE 2 twoA 5000 0 150 0 0 10 = true := by kernel_rfl
theorem ay_10 : turnE 2 twoA 0 1 341 = 0 := by kernel_rfl
theorem ay_11 : turnI 2 twoA 0 1 341 = 1 := by kernel_rfl
theorem ay_12 : turnE 2 twoA 0 1 340 = 0 := by kernel_rfl
theorem ay_13 : turnI 2 twoA 0 1 340 = 0 := by kernel_rfl
theorem ay_14 : turnE 2 twoA 0 1 342 = 7 := by kernel_rfl
theorem ay_15 : reI 4613937818241073152 = 3 := by kernel_rfl
theorem ay_16 : reI 4616189618054758400 = 4 := by kernel_rfl
theorem ay_17 : reI 0 = 0 := by kernel_rfl
theorem ay_18 : reI 4607182418800017408 = 1 := by kernel_rfl
theorem ay_19 : (facTop 3 4).tdiv (facBy 3 4) = 3 := by kernel_rfl
theorem ay_20 : (8 : Int).tdiv (facBy 3 4) = 1 := by kernel_rfl
theorem ay_21 : (facDen 3 4).tdiv (facBy 3 4) = 4 := by kernel_rfl
theorem ay_22 : (shNum 3 4).tdiv (shBy 3 4) = 5 := by kernel_rfl
theorem ay_23 : (facDen 3 4).tdiv (shBy 3 4) = 8 := by kernel_rfl
theorem ay_24 : (shNum 0 1).tdiv (shBy 0 1) = 1 := by kernel_rfl
theorem ay_25 : (facDen 0 1).tdiv (shBy 0 1) = 1 := by kernel_rfl
theorem ay_26 : airE 1 (fun i => twoA (1 + i)) = 0 := by kernel_rfl
theorem ay_27 : airB 1 (fun i => twoA (1 + i)) = [108, 97, 121, 101, 114, 32, 53, 48, 32, 51, 52, 49, 32, 49, 48, 32, 48, 32, 56, 48, 48, 32, 56, 48, 48, 10] := by kernel_rfl
theorem ay_28 : airE 2 twoA = 0 := by kernel_rfl
theorem ay_29 : revG twoA 1 = [.int .i64 50, .int .i64 341, .int .i64 (-10), .int .i64 0, .sl 1 2 twoQ] := by kernel_rfl
theorem ay_30 : rkE 2 twoA (-1) 0 = 0 := by kernel_rfl
theorem ay_31 : sameN 2 (fun i => [.int .i64 (rankG 2 twoA (-1) 0 i)]) 2 (fun i => rowAt [.int .i64 0, .int .i64 1] 1 (0 + i)) = true := by kernel_rfl
theorem ay_32 : checkE 2 twoA 0 0 50 0 0 60 = 0 := by kernel_rfl
theorem ay_33 : sameG 1 (fun k => [.int .i64 (qLo 2 twoA (ech 0 0 50 0 0 60) 0 50 0 60 0 k), .int .i64 (qHi 2 twoA (ech 0 0 50 0 0 60) 0 50 0 60 0 k)]) 1 (fun i => rowAt [.int .i64 810, .int .i64 950] 2 (0 + i)) = true := by kernel_rfl
theorem ay_34 : sameG 1 (totG 2 twoA 0 0 0 100 0 0 1 1 (rowAt [.int .i64 1000] 1)) 1 (fun i => rowAt [.int .i64 1800, .int .i64 1900] 2 (0 + i)) = true := by kernel_rfl
theorem isIv_lit1 {a b : Int} : (IsIv 1 fun i => rowAt [V.int .i64 a, V.int .i64 b] 2 (0 + i)) = True := eq_true ⟨by decide, fun i hi => by
  obtain rfl : i = 0 := by omega
  rfl⟩
theorem isIv_lit1' {a b : Int} : IsIv 1 (rowAt [V.int .i64 a, V.int .i64 b] 2) = True := eq_true ⟨by decide, fun i hi => by
  obtain rfl : i = 0 := by omega
  rfl⟩
theorem isIv_lit2 {a b c d : Int} : (IsIv 2 fun i => rowAt [V.int .i64 a, V.int .i64 b, V.int .i64 c, V.int .i64 d] 2 (0 + i)) = True := eq_true ⟨by decide, fun i hi => by
  have h : i = 0 ∨ i = 1 := by omega
  rcases h with rfl | rfl <;> rfl⟩
theorem isIv_f1 {f g : Nat → Int} : (IsIv 1 fun i => [V.int .i64 (f i), V.int .i64 (g i)]) = True := eq_true (isIv_fn f g (by decide))
theorem isIv_f2 {f g : Nat → Int} : (IsIv 2 fun i => [V.int .i64 (f i), V.int .i64 (g i)]) = True := eq_true (isIv_fn f g (by decide))
theorem isInts_l1 {a : Int} : IsInts 1 (rowAt [V.int .i64 a] 1) = True := eq_true ⟨by decide, fun i hi => by
  obtain rfl : i = 0 := by omega
  rfl⟩
theorem isInts_l2 {a b : Int} : (IsInts 2 fun i => rowAt [V.int .i64 a, V.int .i64 b] 1 (0 + i)) = True := eq_true ⟨by decide, fun i hi => by
  have h : i = 0 ∨ i = 1 := by omega
  rcases h with rfl | rfl <;> rfl⟩
theorem isInts_f2 {f : Nat → Int} : (IsInts 2 fun i => [V.int .i64 (f i)]) = True := eq_true (isInts_fn f (by decide))
theorem twoA_T : IsAir 2 twoA = True := eq_true twoA_is
theorem two1_is : IsAir 1 (fun i => twoA (1 + i)) := ⟨by decide, fun i hi => by
  obtain rfl : i = 0 := by omega
  exact twoA_is.2 1 (by decide)⟩
theorem imp34_T : (∃ re im, ImpOk 4613937818241073152 4616189618054758400 re im) = True := eq_true ⟨_, _, imp34⟩
theorem imp01_T : (∃ re im, ImpOk 0 4607182418800017408 re im) = True := eq_true ⟨_, _, imp01⟩
theorem revG_is : IsAir 2 (revG twoA) := isAir_rev twoA_is
end Go.Fly
end
