/- MADE BY PROGRAM (gentypes.py): closed facts of the program's types. -/
import Derived.Test.YtmlknpghkclffaaGreatDoorAE
import Derived.Test.YtmlknpghkclffaaGreatDoorProg
import Derived.KernelRfl
set_option linter.unusedSimpArgs false
set_option linter.unusedVariables false
namespace Go.Fly.Tryz
open Go
@[go_sem] theorem tsz1 : tsz Proofs.Tryz.prog 1 = 1 := by kernel_rfl
@[go_sem] theorem tagg1 : tagg Proofs.Tryz.prog 1 = some false := by kernel_rfl
@[go_sem] theorem tby1 : tby Proofs.Tryz.prog 1 = 8 := by kernel_rfl
@[go_sem] theorem tzero1 : tzero Proofs.Tryz.prog 1 = some (.nilfn) := by kernel_rfl
@[go_sem] theorem tsz2 : tsz Proofs.Tryz.prog 2 = 1 := by kernel_rfl
@[go_sem] theorem tagg2 : tagg Proofs.Tryz.prog 2 = some false := by kernel_rfl
@[go_sem] theorem tby2 : tby Proofs.Tryz.prog 2 = 8 := by kernel_rfl
@[go_sem] theorem tzero2 : tzero Proofs.Tryz.prog 2 = some (.int .i64 0) := by kernel_rfl
@[go_sem] theorem tsz3 : tsz Proofs.Tryz.prog 3 = 1 := by kernel_rfl
@[go_sem] theorem tagg3 : tagg Proofs.Tryz.prog 3 = some false := by kernel_rfl
@[go_sem] theorem tby3 : tby Proofs.Tryz.prog 3 = 8 := by kernel_rfl
@[go_sem] theorem tzero3 : tzero Proofs.Tryz.prog 3 = some (.int .i64 0) := by kernel_rfl
@[go_sem] theorem tsz4 : tsz Proofs.Tryz.prog 4 = 1 := by kernel_rfl
@[go_sem] theorem tagg4 : tagg Proofs.Tryz.prog 4 = some false := by kernel_rfl
@[go_sem] theorem tby4 : tby Proofs.Tryz.prog 4 = 1 := by kernel_rfl
@[go_sem] theorem tzero4 : tzero Proofs.Tryz.prog 4 = some (.bool false) := by kernel_rfl
@[go_sem] theorem tsz5 : tsz Proofs.Tryz.prog 5 = 1 := by kernel_rfl
@[go_sem] theorem tagg5 : tagg Proofs.Tryz.prog 5 = some false := by kernel_rfl
@[go_sem] theorem tby5 : tby Proofs.Tryz.prog 5 = 1 := by kernel_rfl
@[go_sem] theorem tzero5 : tzero Proofs.Tryz.prog 5 = some (.int .u8 0) := by kernel_rfl
@[go_sem] theorem tsz6 : tsz Proofs.Tryz.prog 6 = 1 := by kernel_rfl
@[go_sem] theorem tagg6 : tagg Proofs.Tryz.prog 6 = some false := by kernel_rfl
@[go_sem] theorem tby6 : tby Proofs.Tryz.prog 6 = 1 := by kernel_rfl
@[go_sem] theorem tzero6 : tzero Proofs.Tryz.prog 6 = some (.int .u8 0) := by kernel_rfl
@[go_sem] theorem tsz7 : tsz Proofs.Tryz.prog 7 = 4 := by kernel_rfl
@[go_sem] theorem tagg7 : tagg Proofs.Tryz.prog 7 = some true := by kernel_rfl
@[go_sem] theorem tby7 : tby Proofs.Tryz.prog 7 = 24 := by kernel_rfl
@[go_sem] theorem tzero7 : tzero Proofs.Tryz.prog 7 = some (.agg [.int .i64 0, .int .i64 0, .bool false, .int .u8 0]) := by kernel_rfl
@[go_sem] theorem tsz8 : tsz Proofs.Tryz.prog 8 = 4 := by kernel_rfl
@[go_sem] theorem tagg8 : tagg Proofs.Tryz.prog 8 = some true := by kernel_rfl
@[go_sem] theorem tby8 : tby Proofs.Tryz.prog 8 = 24 := by kernel_rfl
@[go_sem] theorem tzero8 : tzero Proofs.Tryz.prog 8 = some (.agg [.int .i64 0, .int .i64 0, .bool false, .int .u8 0]) := by kernel_rfl
@[go_sem] theorem tsz9 : tsz Proofs.Tryz.prog 9 = 1 := by kernel_rfl
@[go_sem] theorem tagg9 : tagg Proofs.Tryz.prog 9 = some false := by kernel_rfl
@[go_sem] theorem tby9 : tby Proofs.Tryz.prog 9 = 16 := by kernel_rfl
@[go_sem] theorem tzero9 : tzero Proofs.Tryz.prog 9 = some (.str []) := by kernel_rfl
@[go_sem] theorem tsz11 : tsz Proofs.Tryz.prog 11 = 1 := by kernel_rfl
@[go_sem] theorem tagg11 : tagg Proofs.Tryz.prog 11 = some false := by kernel_rfl
@[go_sem] theorem tby11 : tby Proofs.Tryz.prog 11 = 16 := by kernel_rfl
@[go_sem] theorem tzero11 : tzero Proofs.Tryz.prog 11 = some (.str []) := by kernel_rfl
@[go_sem] theorem tsz12 : tsz Proofs.Tryz.prog 12 = 1 := by kernel_rfl
@[go_sem] theorem tagg12 : tagg Proofs.Tryz.prog 12 = some false := by kernel_rfl
@[go_sem] theorem tby12 : tby Proofs.Tryz.prog 12 = 8 := by kernel_rfl
@[go_sem] theorem tzero12 : tzero Proofs.Tryz.prog 12 = some (.int .u64 0) := by kernel_rfl
@[go_sem] theorem tsz16 : tsz Proofs.Tryz.prog 16 = 1 := by kernel_rfl
@[go_sem] theorem tagg16 : tagg Proofs.Tryz.prog 16 = some false := by kernel_rfl
@[go_sem] theorem tby16 : tby Proofs.Tryz.prog 16 = 8 := by kernel_rfl
@[go_sem] theorem tzero16 : tzero Proofs.Tryz.prog 16 = some (.nilp) := by kernel_rfl
@[go_sem] theorem tsz17 : tsz Proofs.Tryz.prog 17 = 1 := by kernel_rfl
@[go_sem] theorem tagg17 : tagg Proofs.Tryz.prog 17 = some false := by kernel_rfl
@[go_sem] theorem tby17 : tby Proofs.Tryz.prog 17 = 8 := by kernel_rfl
@[go_sem] theorem tzero17 : tzero Proofs.Tryz.prog 17 = some (.nilp) := by kernel_rfl
@[go_sem] theorem tsz20 : tsz Proofs.Tryz.prog 20 = 1 := by kernel_rfl
@[go_sem] theorem tagg20 : tagg Proofs.Tryz.prog 20 = some false := by kernel_rfl
@[go_sem] theorem tby20 : tby Proofs.Tryz.prog 20 = 16 := by kernel_rfl
@[go_sem] theorem tsz21 : tsz Proofs.Tryz.prog 21 = 1 := by kernel_rfl
@[go_sem] theorem tagg21 : tagg Proofs.Tryz.prog 21 = some false := by kernel_rfl
@[go_sem] theorem tby21 : tby Proofs.Tryz.prog 21 = 4 := by kernel_rfl
@[go_sem] theorem tzero21 : tzero Proofs.Tryz.prog 21 = some (.int .i32 0) := by kernel_rfl
@[go_sem] theorem tsz22 : tsz Proofs.Tryz.prog 22 = 1 := by kernel_rfl
@[go_sem] theorem tagg22 : tagg Proofs.Tryz.prog 22 = some false := by kernel_rfl
@[go_sem] theorem tby22 : tby Proofs.Tryz.prog 22 = 24 := by kernel_rfl
@[go_sem] theorem tzero22 : tzero Proofs.Tryz.prog 22 = some (.nils) := by kernel_rfl
@[go_sem] theorem tsz24 : tsz Proofs.Tryz.prog 24 = 1 := by kernel_rfl
@[go_sem] theorem tagg24 : tagg Proofs.Tryz.prog 24 = some false := by kernel_rfl
@[go_sem] theorem tby24 : tby Proofs.Tryz.prog 24 = 8 := by kernel_rfl
@[go_sem] theorem tzero24 : tzero Proofs.Tryz.prog 24 = some (.nilfn) := by kernel_rfl
@[go_sem] theorem tsz26 : tsz Proofs.Tryz.prog 26 = 1 := by kernel_rfl
@[go_sem] theorem tagg26 : tagg Proofs.Tryz.prog 26 = some false := by kernel_rfl
@[go_sem] theorem tby26 : tby Proofs.Tryz.prog 26 = 8 := by kernel_rfl
@[go_sem] theorem tzero26 : tzero Proofs.Tryz.prog 26 = some (.int .i64 0) := by kernel_rfl
@[go_sem] theorem tsz29 : tsz Proofs.Tryz.prog 29 = 1 := by kernel_rfl
@[go_sem] theorem tagg29 : tagg Proofs.Tryz.prog 29 = some false := by kernel_rfl
@[go_sem] theorem tby29 : tby Proofs.Tryz.prog 29 = 24 := by kernel_rfl
@[go_sem] theorem tzero29 : tzero Proofs.Tryz.prog 29 = some (.nils) := by kernel_rfl
@[go_sem] theorem tsz32 : tsz Proofs.Tryz.prog 32 = 1 := by kernel_rfl
@[go_sem] theorem tagg32 : tagg Proofs.Tryz.prog 32 = some false := by kernel_rfl
@[go_sem] theorem tby32 : tby Proofs.Tryz.prog 32 = 8 := by kernel_rfl
@[go_sem] theorem tzero32 : tzero Proofs.Tryz.prog 32 = some (.nilfn) := by kernel_rfl
@[go_sem] theorem tsz36 : tsz Proofs.Tryz.prog 36 = 1 := by kernel_rfl
@[go_sem] theorem tagg36 : tagg Proofs.Tryz.prog 36 = some false := by kernel_rfl
@[go_sem] theorem tby36 : tby Proofs.Tryz.prog 36 = 24 := by kernel_rfl
@[go_sem] theorem tzero36 : tzero Proofs.Tryz.prog 36 = some (.nils) := by kernel_rfl
@[go_sem] theorem tsz40 : tsz Proofs.Tryz.prog 40 = 1 := by kernel_rfl
@[go_sem] theorem tagg40 : tagg Proofs.Tryz.prog 40 = some false := by kernel_rfl
@[go_sem] theorem tby40 : tby Proofs.Tryz.prog 40 = 8 := by kernel_rfl
@[go_sem] theorem tzero40 : tzero Proofs.Tryz.prog 40 = some (.nilfn) := by kernel_rfl
@[go_sem] theorem tsz44 : tsz Proofs.Tryz.prog 44 = 3 := by kernel_rfl
@[go_sem] theorem tagg44 : tagg Proofs.Tryz.prog 44 = some true := by kernel_rfl
@[go_sem] theorem tby44 : tby Proofs.Tryz.prog 44 = 24 := by kernel_rfl
@[go_sem] theorem tzero44 : tzero Proofs.Tryz.prog 44 = some (.agg [.int .i64 0, .int .i64 0, .int .i64 0]) := by kernel_rfl
@[go_sem] theorem tsz45 : tsz Proofs.Tryz.prog 45 = 3 := by kernel_rfl
@[go_sem] theorem tagg45 : tagg Proofs.Tryz.prog 45 = some true := by kernel_rfl
@[go_sem] theorem tby45 : tby Proofs.Tryz.prog 45 = 24 := by kernel_rfl
@[go_sem] theorem tzero45 : tzero Proofs.Tryz.prog 45 = some (.agg [.int .i64 0, .int .i64 0, .int .i64 0]) := by kernel_rfl
@[go_sem] theorem tsz46 : tsz Proofs.Tryz.prog 46 = 6 := by kernel_rfl
@[go_sem] theorem tagg46 : tagg Proofs.Tryz.prog 46 = some true := by kernel_rfl
@[go_sem] theorem tby46 : tby Proofs.Tryz.prog 46 = 48 := by kernel_rfl
@[go_sem] theorem tzero46 : tzero Proofs.Tryz.prog 46 = some (.agg [.int .i64 0, .int .i64 0, .int .i64 0, .int .i64 0, .int .i64 0, .int .i64 0]) := by kernel_rfl
@[go_sem] theorem tsz47 : tsz Proofs.Tryz.prog 47 = 6 := by kernel_rfl
@[go_sem] theorem tagg47 : tagg Proofs.Tryz.prog 47 = some true := by kernel_rfl
@[go_sem] theorem tby47 : tby Proofs.Tryz.prog 47 = 48 := by kernel_rfl
@[go_sem] theorem tzero47 : tzero Proofs.Tryz.prog 47 = some (.agg [.int .i64 0, .int .i64 0, .int .i64 0, .int .i64 0, .int .i64 0, .int .i64 0]) := by kernel_rfl
@[go_sem] theorem tsz48 : tsz Proofs.Tryz.prog 48 = 2 := by kernel_rfl
@[go_sem] theorem tagg48 : tagg Proofs.Tryz.prog 48 = some true := by kernel_rfl
@[go_sem] theorem tby48 : tby Proofs.Tryz.prog 48 = 16 := by kernel_rfl
@[go_sem] theorem tzero48 : tzero Proofs.Tryz.prog 48 = some (.agg [.int .i64 0, .int .i64 0]) := by kernel_rfl
@[go_sem] theorem tsz49 : tsz Proofs.Tryz.prog 49 = 2 := by kernel_rfl
@[go_sem] theorem tagg49 : tagg Proofs.Tryz.prog 49 = some true := by kernel_rfl
@[go_sem] theorem tby49 : tby Proofs.Tryz.prog 49 = 16 := by kernel_rfl
@[go_sem] theorem tzero49 : tzero Proofs.Tryz.prog 49 = some (.agg [.int .i64 0, .int .i64 0]) := by kernel_rfl
@[go_sem] theorem tsz52 : tsz Proofs.Tryz.prog 52 = 6 := by kernel_rfl
@[go_sem] theorem tagg52 : tagg Proofs.Tryz.prog 52 = some true := by kernel_rfl
@[go_sem] theorem tby52 : tby Proofs.Tryz.prog 52 = 48 := by kernel_rfl
@[go_sem] theorem tzero52 : tzero Proofs.Tryz.prog 52 = some (.agg [.int .i64 0, .int .i64 0, .int .i64 0, .int .i64 0, .int .i64 0, .int .i64 0]) := by kernel_rfl
@[go_sem] theorem tsz54 : tsz Proofs.Tryz.prog 54 = 1 := by kernel_rfl
@[go_sem] theorem tagg54 : tagg Proofs.Tryz.prog 54 = some false := by kernel_rfl
@[go_sem] theorem tby54 : tby Proofs.Tryz.prog 54 = 24 := by kernel_rfl
@[go_sem] theorem tzero54 : tzero Proofs.Tryz.prog 54 = some (.nils) := by kernel_rfl
@[go_sem] theorem tsz56 : tsz Proofs.Tryz.prog 56 = 1 := by kernel_rfl
@[go_sem] theorem tagg56 : tagg Proofs.Tryz.prog 56 = some false := by kernel_rfl
@[go_sem] theorem tby56 : tby Proofs.Tryz.prog 56 = 8 := by kernel_rfl
@[go_sem] theorem tzero56 : tzero Proofs.Tryz.prog 56 = some (.nilfn) := by kernel_rfl
@[go_sem] theorem tsz63 : tsz Proofs.Tryz.prog 63 = 2 := by kernel_rfl
@[go_sem] theorem tagg63 : tagg Proofs.Tryz.prog 63 = some true := by kernel_rfl
@[go_sem] theorem tby63 : tby Proofs.Tryz.prog 63 = 48 := by kernel_rfl
@[go_sem] theorem tzero63 : tzero Proofs.Tryz.prog 63 = some (.agg [.nils, .nils]) := by kernel_rfl
@[go_sem] theorem tsz64 : tsz Proofs.Tryz.prog 64 = 2 := by kernel_rfl
@[go_sem] theorem tagg64 : tagg Proofs.Tryz.prog 64 = some true := by kernel_rfl
@[go_sem] theorem tby64 : tby Proofs.Tryz.prog 64 = 48 := by kernel_rfl
@[go_sem] theorem tzero64 : tzero Proofs.Tryz.prog 64 = some (.agg [.nils, .nils]) := by kernel_rfl
@[go_sem] theorem tsz65 : tsz Proofs.Tryz.prog 65 = 1 := by kernel_rfl
@[go_sem] theorem tagg65 : tagg Proofs.Tryz.prog 65 = some false := by kernel_rfl
@[go_sem] theorem tby65 : tby Proofs.Tryz.prog 65 = 8 := by kernel_rfl
@[go_sem] theorem tzero65 : tzero Proofs.Tryz.prog 65 = some (.nilfn) := by kernel_rfl
@[go_sem] theorem tsz69 : tsz Proofs.Tryz.prog 69 = 2 := by kernel_rfl
@[go_sem] theorem tagg69 : tagg Proofs.Tryz.prog 69 = some true := by kernel_rfl
@[go_sem] theorem tby69 : tby Proofs.Tryz.prog 69 = 16 := by kernel_rfl
@[go_sem] theorem tzero69 : tzero Proofs.Tryz.prog 69 = some (.agg [.int .i64 0, .int .i64 0]) := by kernel_rfl
@[go_sem] theorem tsz70 : tsz Proofs.Tryz.prog 70 = 2 := by kernel_rfl
@[go_sem] theorem tagg70 : tagg Proofs.Tryz.prog 70 = some true := by kernel_rfl
@[go_sem] theorem tby70 : tby Proofs.Tryz.prog 70 = 16 := by kernel_rfl
@[go_sem] theorem tzero70 : tzero Proofs.Tryz.prog 70 = some (.agg [.int .i64 0, .int .i64 0]) := by kernel_rfl
@[go_sem] theorem tsz71 : tsz Proofs.Tryz.prog 71 = 5 := by kernel_rfl
@[go_sem] theorem tagg71 : tagg Proofs.Tryz.prog 71 = some true := by kernel_rfl
@[go_sem] theorem tby71 : tby Proofs.Tryz.prog 71 = 56 := by kernel_rfl
@[go_sem] theorem tzero71 : tzero Proofs.Tryz.prog 71 = some (.agg [.int .i64 0, .int .i64 0, .int .i64 0, .int .i64 0, .nils]) := by kernel_rfl
@[go_sem] theorem tsz72 : tsz Proofs.Tryz.prog 72 = 5 := by kernel_rfl
@[go_sem] theorem tagg72 : tagg Proofs.Tryz.prog 72 = some true := by kernel_rfl
@[go_sem] theorem tby72 : tby Proofs.Tryz.prog 72 = 56 := by kernel_rfl
@[go_sem] theorem tzero72 : tzero Proofs.Tryz.prog 72 = some (.agg [.int .i64 0, .int .i64 0, .int .i64 0, .int .i64 0, .nils]) := by kernel_rfl
@[go_sem] theorem tsz79 : tsz Proofs.Tryz.prog 79 = 2 := by kernel_rfl
@[go_sem] theorem tagg79 : tagg Proofs.Tryz.prog 79 = some true := by kernel_rfl
@[go_sem] theorem tby79 : tby Proofs.Tryz.prog 79 = 16 := by kernel_rfl
@[go_sem] theorem tzero79 : tzero Proofs.Tryz.prog 79 = some (.agg [.int .i64 0, .int .i64 0]) := by kernel_rfl
@[go_sem] theorem tsz88 : tsz Proofs.Tryz.prog 88 = 2 := by kernel_rfl
@[go_sem] theorem tagg88 : tagg Proofs.Tryz.prog 88 = some true := by kernel_rfl
@[go_sem] theorem tby88 : tby Proofs.Tryz.prog 88 = 16 := by kernel_rfl
@[go_sem] theorem tzero88 : tzero Proofs.Tryz.prog 88 = some (.agg [.int .i64 0, .int .i64 0]) := by kernel_rfl
@[go_sem] theorem tsz89 : tsz Proofs.Tryz.prog 89 = 2 := by kernel_rfl
@[go_sem] theorem tagg89 : tagg Proofs.Tryz.prog 89 = some true := by kernel_rfl
@[go_sem] theorem tby89 : tby Proofs.Tryz.prog 89 = 16 := by kernel_rfl
@[go_sem] theorem tzero89 : tzero Proofs.Tryz.prog 89 = some (.agg [.int .i64 0, .int .i64 0]) := by kernel_rfl
@[go_sem] theorem tsz102 : tsz Proofs.Tryz.prog 102 = 3 := by kernel_rfl
@[go_sem] theorem tagg102 : tagg Proofs.Tryz.prog 102 = some true := by kernel_rfl
@[go_sem] theorem tby102 : tby Proofs.Tryz.prog 102 = 24 := by kernel_rfl
@[go_sem] theorem tzero102 : tzero Proofs.Tryz.prog 102 = some (.agg [.int .i64 0, .int .i64 0, .int .i64 0]) := by kernel_rfl
@[go_sem] theorem tsz105 : tsz Proofs.Tryz.prog 105 = 1 := by kernel_rfl
@[go_sem] theorem tagg105 : tagg Proofs.Tryz.prog 105 = some false := by kernel_rfl
@[go_sem] theorem tby105 : tby Proofs.Tryz.prog 105 = 2 := by kernel_rfl
@[go_sem] theorem tzero105 : tzero Proofs.Tryz.prog 105 = some (.int .u16 0) := by kernel_rfl
@[go_sem] theorem tsz106 : tsz Proofs.Tryz.prog 106 = 2 := by kernel_rfl
@[go_sem] theorem tagg106 : tagg Proofs.Tryz.prog 106 = some true := by kernel_rfl
@[go_sem] theorem tby106 : tby Proofs.Tryz.prog 106 = 4 := by kernel_rfl
@[go_sem] theorem tzero106 : tzero Proofs.Tryz.prog 106 = some (.agg [.int .u16 0, .int .u16 0]) := by kernel_rfl
@[go_sem] theorem tsz107 : tsz Proofs.Tryz.prog 107 = 4 := by kernel_rfl
@[go_sem] theorem tagg107 : tagg Proofs.Tryz.prog 107 = some true := by kernel_rfl
@[go_sem] theorem tby107 : tby Proofs.Tryz.prog 107 = 32 := by kernel_rfl
@[go_sem] theorem tzero107 : tzero Proofs.Tryz.prog 107 = some (.agg [.int .i64 0, .int .i64 0, .int .i64 0, .int .i64 0]) := by kernel_rfl
@[go_sem] theorem tsz108 : tsz Proofs.Tryz.prog 108 = 5 := by kernel_rfl
@[go_sem] theorem tagg108 : tagg Proofs.Tryz.prog 108 = some true := by kernel_rfl
@[go_sem] theorem tby108 : tby Proofs.Tryz.prog 108 = 56 := by kernel_rfl
@[go_sem] theorem tzero108 : tzero Proofs.Tryz.prog 108 = some (.agg [.int .i64 0, .int .i64 0, .int .i64 0, .int .i64 0, .nils]) := by kernel_rfl
@[go_sem] theorem tsz111 : tsz Proofs.Tryz.prog 111 = 1 := by kernel_rfl
@[go_sem] theorem tagg111 : tagg Proofs.Tryz.prog 111 = some false := by kernel_rfl
@[go_sem] theorem tby111 : tby Proofs.Tryz.prog 111 = 4 := by kernel_rfl
@[go_sem] theorem tzero111 : tzero Proofs.Tryz.prog 111 = some (.int .u32 0) := by kernel_rfl
@[go_sem] theorem tsz116 : tsz Proofs.Tryz.prog 116 = 1 := by kernel_rfl
@[go_sem] theorem tagg116 : tagg Proofs.Tryz.prog 116 = some false := by kernel_rfl
@[go_sem] theorem tby116 : tby Proofs.Tryz.prog 116 = 16 := by kernel_rfl
@[go_sem] theorem tzero116 : tzero Proofs.Tryz.prog 116 = some (.cplx .f64 0 0) := by kernel_rfl
@[go_sem] theorem tsz117 : tsz Proofs.Tryz.prog 117 = 1 := by kernel_rfl
@[go_sem] theorem tagg117 : tagg Proofs.Tryz.prog 117 = some false := by kernel_rfl
@[go_sem] theorem tby117 : tby Proofs.Tryz.prog 117 = 8 := by kernel_rfl
@[go_sem] theorem tzero117 : tzero Proofs.Tryz.prog 117 = some (.flt .f64 0) := by kernel_rfl
@[go_sem] theorem tsz118 : tsz Proofs.Tryz.prog 118 = 2 := by kernel_rfl
@[go_sem] theorem tagg118 : tagg Proofs.Tryz.prog 118 = some true := by kernel_rfl
@[go_sem] theorem tby118 : tby Proofs.Tryz.prog 118 = 16 := by kernel_rfl
@[go_sem] theorem tzero118 : tzero Proofs.Tryz.prog 118 = some (.agg [.int .i64 0, .int .i64 0]) := by kernel_rfl
@[go_sem] theorem tsz119 : tsz Proofs.Tryz.prog 119 = 2 := by kernel_rfl
@[go_sem] theorem tagg119 : tagg Proofs.Tryz.prog 119 = some true := by kernel_rfl
@[go_sem] theorem tby119 : tby Proofs.Tryz.prog 119 = 16 := by kernel_rfl
@[go_sem] theorem tzero119 : tzero Proofs.Tryz.prog 119 = some (.agg [.int .i64 0, .int .i64 0]) := by kernel_rfl
@[go_sem] theorem tsz137 : tsz Proofs.Tryz.prog 137 = 1 := by kernel_rfl
@[go_sem] theorem tagg137 : tagg Proofs.Tryz.prog 137 = some false := by kernel_rfl
@[go_sem] theorem tby137 : tby Proofs.Tryz.prog 137 = 24 := by kernel_rfl
@[go_sem] theorem tzero137 : tzero Proofs.Tryz.prog 137 = some (.nils) := by kernel_rfl
@[go_sem] theorem tsz149 : tsz Proofs.Tryz.prog 149 = 7 := by kernel_rfl
@[go_sem] theorem tagg149 : tagg Proofs.Tryz.prog 149 = some true := by kernel_rfl
@[go_sem] theorem tby149 : tby Proofs.Tryz.prog 149 = 72 := by kernel_rfl
@[go_sem] theorem tzero149 : tzero Proofs.Tryz.prog 149 = some (.agg [.int .i64 0, .int .i64 0, .int .i64 0, .int .i64 0, .nils, .int .i64 0, .int .i64 0]) := by kernel_rfl
@[go_sem] theorem tsz150 : tsz Proofs.Tryz.prog 150 = 7 := by kernel_rfl
@[go_sem] theorem tagg150 : tagg Proofs.Tryz.prog 150 = some true := by kernel_rfl
@[go_sem] theorem tby150 : tby Proofs.Tryz.prog 150 = 72 := by kernel_rfl
@[go_sem] theorem tzero150 : tzero Proofs.Tryz.prog 150 = some (.agg [.int .i64 0, .int .i64 0, .int .i64 0, .int .i64 0, .nils, .int .i64 0, .int .i64 0]) := by kernel_rfl
@[go_sem] theorem tsz154 : tsz Proofs.Tryz.prog 154 = 1 := by kernel_rfl
@[go_sem] theorem tagg154 : tagg Proofs.Tryz.prog 154 = some false := by kernel_rfl
@[go_sem] theorem tby154 : tby Proofs.Tryz.prog 154 = 8 := by kernel_rfl
@[go_sem] theorem tzero154 : tzero Proofs.Tryz.prog 154 = some (.nilfn) := by kernel_rfl
@[go_sem] theorem tsz155 : tsz Proofs.Tryz.prog 155 = 1 := by kernel_rfl
@[go_sem] theorem tagg155 : tagg Proofs.Tryz.prog 155 = some false := by kernel_rfl
@[go_sem] theorem tby155 : tby Proofs.Tryz.prog 155 = 8 := by kernel_rfl
@[go_sem] theorem tzero155 : tzero Proofs.Tryz.prog 155 = some (.nilfn) := by kernel_rfl
@[go_sem] theorem tsz158 : tsz Proofs.Tryz.prog 158 = 1 := by kernel_rfl
@[go_sem] theorem tagg158 : tagg Proofs.Tryz.prog 158 = some false := by kernel_rfl
@[go_sem] theorem tby158 : tby Proofs.Tryz.prog 158 = 24 := by kernel_rfl
@[go_sem] theorem tzero158 : tzero Proofs.Tryz.prog 158 = some (.nils) := by kernel_rfl
@[go_sem] theorem tsz160 : tsz Proofs.Tryz.prog 160 = 1 := by kernel_rfl
@[go_sem] theorem tagg160 : tagg Proofs.Tryz.prog 160 = some false := by kernel_rfl
@[go_sem] theorem tby160 : tby Proofs.Tryz.prog 160 = 8 := by kernel_rfl
@[go_sem] theorem tzero160 : tzero Proofs.Tryz.prog 160 = some (.nilfn) := by kernel_rfl
@[go_sem] theorem tsz161 : tsz Proofs.Tryz.prog 161 = 1 := by kernel_rfl
@[go_sem] theorem tagg161 : tagg Proofs.Tryz.prog 161 = some false := by kernel_rfl
@[go_sem] theorem tby161 : tby Proofs.Tryz.prog 161 = 8 := by kernel_rfl
@[go_sem] theorem tzero161 : tzero Proofs.Tryz.prog 161 = some (.nilfn) := by kernel_rfl
@[go_sem] theorem tsz162 : tsz Proofs.Tryz.prog 162 = 4 := by kernel_rfl
@[go_sem] theorem tagg162 : tagg Proofs.Tryz.prog 162 = some true := by kernel_rfl
@[go_sem] theorem tby162 : tby Proofs.Tryz.prog 162 = 32 := by kernel_rfl
@[go_sem] theorem tzero162 : tzero Proofs.Tryz.prog 162 = some (.agg [.int .i64 0, .int .i64 0, .int .i64 0, .int .i64 0]) := by kernel_rfl
@[go_sem] theorem tsz163 : tsz Proofs.Tryz.prog 163 = 6 := by kernel_rfl
@[go_sem] theorem tagg163 : tagg Proofs.Tryz.prog 163 = some true := by kernel_rfl
@[go_sem] theorem tby163 : tby Proofs.Tryz.prog 163 = 48 := by kernel_rfl
@[go_sem] theorem tzero163 : tzero Proofs.Tryz.prog 163 = some (.agg [.int .i64 0, .int .i64 0, .int .i64 0, .int .i64 0, .int .i64 0, .int .i64 0]) := by kernel_rfl
@[go_sem] theorem tsz164 : tsz Proofs.Tryz.prog 164 = 6 := by kernel_rfl
@[go_sem] theorem tagg164 : tagg Proofs.Tryz.prog 164 = some true := by kernel_rfl
@[go_sem] theorem tby164 : tby Proofs.Tryz.prog 164 = 48 := by kernel_rfl
@[go_sem] theorem tzero164 : tzero Proofs.Tryz.prog 164 = some (.agg [.int .i64 0, .int .i64 0, .int .i64 0, .int .i64 0, .int .i64 0, .int .i64 0]) := by kernel_rfl
@[go_sem] theorem tsz165 : tsz Proofs.Tryz.prog 165 = 1 := by kernel_rfl
@[go_sem] theorem tagg165 : tagg Proofs.Tryz.prog 165 = some false := by kernel_rfl
@[go_sem] theorem tby165 : tby Proofs.Tryz.prog 165 = 8 := by kernel_rfl
@[go_sem] theorem tzero165 : tzero Proofs.Tryz.prog 165 = some (.nilfn) := by kernel_rfl
@[go_sem] theorem tsz167 : tsz Proofs.Tryz.prog 167 = 1 := by kernel_rfl
@[go_sem] theorem tagg167 : tagg Proofs.Tryz.prog 167 = some false := by kernel_rfl
@[go_sem] theorem tby167 : tby Proofs.Tryz.prog 167 = 8 := by kernel_rfl
@[go_sem] theorem tzero167 : tzero Proofs.Tryz.prog 167 = some (.nilfn) := by kernel_rfl
@[go_sem] theorem tsz179 : tsz Proofs.Tryz.prog 179 = 1 := by kernel_rfl
@[go_sem] theorem tagg179 : tagg Proofs.Tryz.prog 179 = some false := by kernel_rfl
@[go_sem] theorem tby179 : tby Proofs.Tryz.prog 179 = 8 := by kernel_rfl
@[go_sem] theorem tzero179 : tzero Proofs.Tryz.prog 179 = some (.nilfn) := by kernel_rfl
@[go_sem] theorem tsz182 : tsz Proofs.Tryz.prog 182 = 1 := by kernel_rfl
@[go_sem] theorem tagg182 : tagg Proofs.Tryz.prog 182 = some false := by kernel_rfl
@[go_sem] theorem tby182 : tby Proofs.Tryz.prog 182 = 8 := by kernel_rfl
@[go_sem] theorem tzero182 : tzero Proofs.Tryz.prog 182 = some (.nilfn) := by kernel_rfl
@[go_sem] theorem tsz190 : tsz Proofs.Tryz.prog 190 = 1 := by kernel_rfl
@[go_sem] theorem tagg190 : tagg Proofs.Tryz.prog 190 = some false := by kernel_rfl
@[go_sem] theorem tby190 : tby Proofs.Tryz.prog 190 = 8 := by kernel_rfl
@[go_sem] theorem tzero190 : tzero Proofs.Tryz.prog 190 = some (.nilfn) := by kernel_rfl
@[go_sem] theorem tsz196 : tsz Proofs.Tryz.prog 196 = 1 := by kernel_rfl
@[go_sem] theorem tagg196 : tagg Proofs.Tryz.prog 196 = some false := by kernel_rfl
@[go_sem] theorem tby196 : tby Proofs.Tryz.prog 196 = 8 := by kernel_rfl
@[go_sem] theorem tzero196 : tzero Proofs.Tryz.prog 196 = some (.nilfn) := by kernel_rfl
@[go_sem] theorem tsz197 : tsz Proofs.Tryz.prog 197 = 1 := by kernel_rfl
@[go_sem] theorem tagg197 : tagg Proofs.Tryz.prog 197 = some false := by kernel_rfl
@[go_sem] theorem tby197 : tby Proofs.Tryz.prog 197 = 8 := by kernel_rfl
@[go_sem] theorem tzero197 : tzero Proofs.Tryz.prog 197 = some (.nilfn) := by kernel_rfl
@[go_sem] theorem tsz209 : tsz Proofs.Tryz.prog 209 = 1 := by kernel_rfl
@[go_sem] theorem tagg209 : tagg Proofs.Tryz.prog 209 = some false := by kernel_rfl
@[go_sem] theorem tby209 : tby Proofs.Tryz.prog 209 = 8 := by kernel_rfl
@[go_sem] theorem tzero209 : tzero Proofs.Tryz.prog 209 = some (.nilfn) := by kernel_rfl
@[go_sem] theorem tsz210 : tsz Proofs.Tryz.prog 210 = 1 := by kernel_rfl
@[go_sem] theorem tagg210 : tagg Proofs.Tryz.prog 210 = some true := by kernel_rfl
@[go_sem] theorem tby210 : tby Proofs.Tryz.prog 210 = 16 := by kernel_rfl
@[go_sem] theorem tzero210 : tzero Proofs.Tryz.prog 210 = some (.agg [.str []]) := by kernel_rfl
@[go_sem] theorem tsz211 : tsz Proofs.Tryz.prog 211 = 1 := by kernel_rfl
@[go_sem] theorem tagg211 : tagg Proofs.Tryz.prog 211 = some false := by kernel_rfl
@[go_sem] theorem tby211 : tby Proofs.Tryz.prog 211 = 8 := by kernel_rfl
@[go_sem] theorem tzero211 : tzero Proofs.Tryz.prog 211 = some (.nilfn) := by kernel_rfl
@[go_sem] theorem tsz214 : tsz Proofs.Tryz.prog 214 = 1 := by kernel_rfl
@[go_sem] theorem tagg214 : tagg Proofs.Tryz.prog 214 = some false := by kernel_rfl
@[go_sem] theorem tby214 : tby Proofs.Tryz.prog 214 = 8 := by kernel_rfl
@[go_sem] theorem tzero214 : tzero Proofs.Tryz.prog 214 = some (.nilfn) := by kernel_rfl
@[go_sem] theorem tsz215 : tsz Proofs.Tryz.prog 215 = 1 := by kernel_rfl
@[go_sem] theorem tagg215 : tagg Proofs.Tryz.prog 215 = some false := by kernel_rfl
@[go_sem] theorem tby215 : tby Proofs.Tryz.prog 215 = 8 := by kernel_rfl
@[go_sem] theorem tzero215 : tzero Proofs.Tryz.prog 215 = some (.nilfn) := by kernel_rfl
@[go_sem] theorem tsz221 : tsz Proofs.Tryz.prog 221 = 1 := by kernel_rfl
@[go_sem] theorem tagg221 : tagg Proofs.Tryz.prog 221 = some true := by kernel_rfl
@[go_sem] theorem tby221 : tby Proofs.Tryz.prog 221 = 8 := by kernel_rfl
@[go_sem] theorem tzero221 : tzero Proofs.Tryz.prog 221 = some (.agg [.nilfn]) := by kernel_rfl
@[go_sem] theorem tsz222 : tsz Proofs.Tryz.prog 222 = 1 := by kernel_rfl
@[go_sem] theorem tagg222 : tagg Proofs.Tryz.prog 222 = some true := by kernel_rfl
@[go_sem] theorem tby222 : tby Proofs.Tryz.prog 222 = 8 := by kernel_rfl
@[go_sem] theorem tzero222 : tzero Proofs.Tryz.prog 222 = some (.agg [.nilfn]) := by kernel_rfl
@[go_sem] theorem tsz229 : tsz Proofs.Tryz.prog 229 = 1 := by kernel_rfl
@[go_sem] theorem tagg229 : tagg Proofs.Tryz.prog 229 = some false := by kernel_rfl
@[go_sem] theorem tby229 : tby Proofs.Tryz.prog 229 = 8 := by kernel_rfl
@[go_sem] theorem tzero229 : tzero Proofs.Tryz.prog 229 = some (.nilp) := by kernel_rfl
@[go_sem] theorem tsz230 : tsz Proofs.Tryz.prog 230 = 1 := by kernel_rfl
@[go_sem] theorem tagg230 : tagg Proofs.Tryz.prog 230 = some false := by kernel_rfl
@[go_sem] theorem tby230 : tby Proofs.Tryz.prog 230 = 24 := by kernel_rfl
@[go_sem] theorem tzero230 : tzero Proofs.Tryz.prog 230 = some (.nils) := by kernel_rfl
@[go_sem] theorem tsz231 : tsz Proofs.Tryz.prog 231 = 2 := by kernel_rfl
@[go_sem] theorem tagg231 : tagg Proofs.Tryz.prog 231 = some true := by kernel_rfl
@[go_sem] theorem tby231 : tby Proofs.Tryz.prog 231 = 32 := by kernel_rfl
@[go_sem] theorem tzero231 : tzero Proofs.Tryz.prog 231 = some (.agg [.nilp, .nils]) := by kernel_rfl
@[go_sem] theorem tsz232 : tsz Proofs.Tryz.prog 232 = 2 := by kernel_rfl
@[go_sem] theorem tagg232 : tagg Proofs.Tryz.prog 232 = some true := by kernel_rfl
@[go_sem] theorem tby232 : tby Proofs.Tryz.prog 232 = 32 := by kernel_rfl
@[go_sem] theorem tzero232 : tzero Proofs.Tryz.prog 232 = some (.agg [.nilp, .nils]) := by kernel_rfl
@[go_sem] theorem tsz233 : tsz Proofs.Tryz.prog 233 = 1 := by kernel_rfl
@[go_sem] theorem tagg233 : tagg Proofs.Tryz.prog 233 = some false := by kernel_rfl
@[go_sem] theorem tby233 : tby Proofs.Tryz.prog 233 = 8 := by kernel_rfl
@[go_sem] theorem tzero233 : tzero Proofs.Tryz.prog 233 = some (.nilfn) := by kernel_rfl
@[go_sem] theorem tsz234 : tsz Proofs.Tryz.prog 234 = 1 := by kernel_rfl
@[go_sem] theorem tagg234 : tagg Proofs.Tryz.prog 234 = some false := by kernel_rfl
@[go_sem] theorem tby234 : tby Proofs.Tryz.prog 234 = 16 := by kernel_rfl
@[go_sem] theorem tsz235 : tsz Proofs.Tryz.prog 235 = 1 := by kernel_rfl
@[go_sem] theorem tagg235 : tagg Proofs.Tryz.prog 235 = some false := by kernel_rfl
@[go_sem] theorem tby235 : tby Proofs.Tryz.prog 235 = 16 := by kernel_rfl
@[go_sem] theorem tsz237 : tsz Proofs.Tryz.prog 237 = 1 := by kernel_rfl
@[go_sem] theorem tagg237 : tagg Proofs.Tryz.prog 237 = some false := by kernel_rfl
@[go_sem] theorem tby237 : tby Proofs.Tryz.prog 237 = 8 := by kernel_rfl
@[go_sem] theorem tzero237 : tzero Proofs.Tryz.prog 237 = some (.nilfn) := by kernel_rfl
@[go_sem] theorem tsz242 : tsz Proofs.Tryz.prog 242 = 1 := by kernel_rfl
@[go_sem] theorem tagg242 : tagg Proofs.Tryz.prog 242 = some false := by kernel_rfl
@[go_sem] theorem tby242 : tby Proofs.Tryz.prog 242 = 8 := by kernel_rfl
@[go_sem] theorem tzero242 : tzero Proofs.Tryz.prog 242 = some (.nilfn) := by kernel_rfl
@[go_sem] theorem tsz249 : tsz Proofs.Tryz.prog 249 = 1 := by kernel_rfl
@[go_sem] theorem tagg249 : tagg Proofs.Tryz.prog 249 = some false := by kernel_rfl
@[go_sem] theorem tby249 : tby Proofs.Tryz.prog 249 = 8 := by kernel_rfl
@[go_sem] theorem tzero249 : tzero Proofs.Tryz.prog 249 = some (.nilp) := by kernel_rfl
@[go_sem] theorem tsz254 : tsz Proofs.Tryz.prog 254 = 1 := by kernel_rfl
@[go_sem] theorem tagg254 : tagg Proofs.Tryz.prog 254 = some false := by kernel_rfl
@[go_sem] theorem tby254 : tby Proofs.Tryz.prog 254 = 8 := by kernel_rfl
@[go_sem] theorem tzero254 : tzero Proofs.Tryz.prog 254 = some (.int .u64 0) := by kernel_rfl
@[go_sem] theorem tsz255 : tsz Proofs.Tryz.prog 255 = 1 := by kernel_rfl
@[go_sem] theorem tagg255 : tagg Proofs.Tryz.prog 255 = some false := by kernel_rfl
@[go_sem] theorem tby255 : tby Proofs.Tryz.prog 255 = 8 := by kernel_rfl
@[go_sem] theorem tzero255 : tzero Proofs.Tryz.prog 255 = some (.nilp) := by kernel_rfl
@[go_sem] theorem tsz263 : tsz Proofs.Tryz.prog 263 = 1 := by kernel_rfl
@[go_sem] theorem tagg263 : tagg Proofs.Tryz.prog 263 = some false := by kernel_rfl
@[go_sem] theorem tby263 : tby Proofs.Tryz.prog 263 = 8 := by kernel_rfl
@[go_sem] theorem tzero263 : tzero Proofs.Tryz.prog 263 = some (.int .u64 0) := by kernel_rfl
@[go_sem] theorem tsz266 : tsz Proofs.Tryz.prog 266 = 24 := by kernel_rfl
@[go_sem] theorem tagg266 : tagg Proofs.Tryz.prog 266 = some true := by kernel_rfl
@[go_sem] theorem tby266 : tby Proofs.Tryz.prog 266 = 24 := by kernel_rfl
@[go_sem] theorem tzero266 : tzero Proofs.Tryz.prog 266 = some (.agg [.int .u8 0, .int .u8 0, .int .u8 0, .int .u8 0, .int .u8 0, .int .u8 0, .int .u8 0, .int .u8 0, .int .u8 0, .int .u8 0, .int .u8 0, .int .u8 0, .int .u8 0, .int .u8 0, .int .u8 0, .int .u8 0, .int .u8 0, .int .u8 0, .int .u8 0, .int .u8 0, .int .u8 0, .int .u8 0, .int .u8 0, .int .u8 0]) := by kernel_rfl
@[go_sem] theorem tsz272 : tsz Proofs.Tryz.prog 272 = 20 := by kernel_rfl
@[go_sem] theorem tagg272 : tagg Proofs.Tryz.prog 272 = some true := by kernel_rfl
@[go_sem] theorem tby272 : tby Proofs.Tryz.prog 272 = 160 := by kernel_rfl
@[go_sem] theorem tzero272 : tzero Proofs.Tryz.prog 272 = some (.agg [.int .u64 0, .int .u64 0, .int .u64 0, .int .u64 0, .int .u64 0, .int .u64 0, .int .u64 0, .int .u64 0, .int .u64 0, .int .u64 0, .int .u64 0, .int .u64 0, .int .u64 0, .int .u64 0, .int .u64 0, .int .u64 0, .int .u64 0, .int .u64 0, .int .u64 0, .int .u64 0]) := by kernel_rfl
@[go_sem] theorem tsz273 : tsz Proofs.Tryz.prog 273 = 65 := by kernel_rfl
@[go_sem] theorem tagg273 : tagg Proofs.Tryz.prog 273 = some true := by kernel_rfl
@[go_sem] theorem tby273 : tby Proofs.Tryz.prog 273 = 65 := by kernel_rfl
@[go_sem] theorem tzero273 : tzero Proofs.Tryz.prog 273 = some (.agg [.int .u8 0, .int .u8 0, .int .u8 0, .int .u8 0, .int .u8 0, .int .u8 0, .int .u8 0, .int .u8 0, .int .u8 0, .int .u8 0, .int .u8 0, .int .u8 0, .int .u8 0, .int .u8 0, .int .u8 0, .int .u8 0, .int .u8 0, .int .u8 0, .int .u8 0, .int .u8 0, .int .u8 0, .int .u8 0, .int .u8 0, .int .u8 0, .int .u8 0, .int .u8 0, .int .u8 0, .int .u8 0, .int .u8 0, .int .u8 0, .int .u8 0, .int .u8 0, .int .u8 0, .int .u8 0, .int .u8 0, .int .u8 0, .int .u8 0, .int .u8 0, .int .u8 0, .int .u8 0, .int .u8 0, .int .u8 0, .int .u8 0, .int .u8 0, .int .u8 0, .int .u8 0, .int .u8 0, .int .u8 0, .int .u8 0, .int .u8 0, .int .u8 0, .int .u8 0, .int .u8 0, .int .u8 0, .int .u8 0, .int .u8 0, .int .u8 0, .int .u8 0, .int .u8 0, .int .u8 0, .int .u8 0, .int .u8 0, .int .u8 0, .int .u8 0, .int .u8 0]) := by kernel_rfl
@[go_sem] theorem tsz282 : tsz Proofs.Tryz.prog 282 = 32 := by kernel_rfl
@[go_sem] theorem tagg282 : tagg Proofs.Tryz.prog 282 = some true := by kernel_rfl
@[go_sem] theorem tby282 : tby Proofs.Tryz.prog 282 = 32 := by kernel_rfl
@[go_sem] theorem tzero282 : tzero Proofs.Tryz.prog 282 = some (.agg [.int .u8 0, .int .u8 0, .int .u8 0, .int .u8 0, .int .u8 0, .int .u8 0, .int .u8 0, .int .u8 0, .int .u8 0, .int .u8 0, .int .u8 0, .int .u8 0, .int .u8 0, .int .u8 0, .int .u8 0, .int .u8 0, .int .u8 0, .int .u8 0, .int .u8 0, .int .u8 0, .int .u8 0, .int .u8 0, .int .u8 0, .int .u8 0, .int .u8 0, .int .u8 0, .int .u8 0, .int .u8 0, .int .u8 0, .int .u8 0, .int .u8 0, .int .u8 0]) := by kernel_rfl
@[go_sem] theorem tsz283 : tsz Proofs.Tryz.prog 283 = 64 := by kernel_rfl
@[go_sem] theorem tagg283 : tagg Proofs.Tryz.prog 283 = some true := by kernel_rfl
@[go_sem] theorem tby283 : tby Proofs.Tryz.prog 283 = 64 := by kernel_rfl
@[go_sem] theorem tzero283 : tzero Proofs.Tryz.prog 283 = some (.agg [.int .u8 0, .int .u8 0, .int .u8 0, .int .u8 0, .int .u8 0, .int .u8 0, .int .u8 0, .int .u8 0, .int .u8 0, .int .u8 0, .int .u8 0, .int .u8 0, .int .u8 0, .int .u8 0, .int .u8 0, .int .u8 0, .int .u8 0, .int .u8 0, .int .u8 0, .int .u8 0, .int .u8 0, .int .u8 0, .int .u8 0, .int .u8 0, .int .u8 0, .int .u8 0, .int .u8 0, .int .u8 0, .int .u8 0, .int .u8 0, .int .u8 0, .int .u8 0, .int .u8 0, .int .u8 0, .int .u8 0, .int .u8 0, .int .u8 0, .int .u8 0, .int .u8 0, .int .u8 0, .int .u8 0, .int .u8 0, .int .u8 0, .int .u8 0, .int .u8 0, .int .u8 0, .int .u8 0, .int .u8 0, .int .u8 0, .int .u8 0, .int .u8 0, .int .u8 0, .int .u8 0, .int .u8 0, .int .u8 0, .int .u8 0, .int .u8 0, .int .u8 0, .int .u8 0, .int .u8 0, .int .u8 0, .int .u8 0, .int .u8 0, .int .u8 0]) := by kernel_rfl
@[go_sem] theorem tsz286 : tsz Proofs.Tryz.prog 286 = 0 := by kernel_rfl
@[go_sem] theorem tagg286 : tagg Proofs.Tryz.prog 286 = some true := by kernel_rfl
@[go_sem] theorem tby286 : tby Proofs.Tryz.prog 286 = 0 := by kernel_rfl
@[go_sem] theorem tzero286 : tzero Proofs.Tryz.prog 286 = some (.agg []) := by kernel_rfl
@[go_sem] theorem tsz287 : tsz Proofs.Tryz.prog 287 = 0 := by kernel_rfl
@[go_sem] theorem tagg287 : tagg Proofs.Tryz.prog 287 = some true := by kernel_rfl
@[go_sem] theorem tby287 : tby Proofs.Tryz.prog 287 = 0 := by kernel_rfl
@[go_sem] theorem tzero287 : tzero Proofs.Tryz.prog 287 = some (.agg []) := by kernel_rfl
@[go_sem] theorem tsz288 : tsz Proofs.Tryz.prog 288 = 0 := by kernel_rfl
@[go_sem] theorem tagg288 : tagg Proofs.Tryz.prog 288 = some true := by kernel_rfl
@[go_sem] theorem tby288 : tby Proofs.Tryz.prog 288 = 0 := by kernel_rfl
@[go_sem] theorem tzero288 : tzero Proofs.Tryz.prog 288 = some (.agg []) := by kernel_rfl
@[go_sem] theorem tsz289 : tsz Proofs.Tryz.prog 289 = 1 := by kernel_rfl
@[go_sem] theorem tagg289 : tagg Proofs.Tryz.prog 289 = some false := by kernel_rfl
@[go_sem] theorem tby289 : tby Proofs.Tryz.prog 289 = 1 := by kernel_rfl
@[go_sem] theorem tzero289 : tzero Proofs.Tryz.prog 289 = some (.int .u8 0) := by kernel_rfl
@[go_sem] theorem tsz290 : tsz Proofs.Tryz.prog 290 = 1 := by kernel_rfl
@[go_sem] theorem tagg290 : tagg Proofs.Tryz.prog 290 = some false := by kernel_rfl
@[go_sem] theorem tby290 : tby Proofs.Tryz.prog 290 = 1 := by kernel_rfl
@[go_sem] theorem tzero290 : tzero Proofs.Tryz.prog 290 = some (.int .u8 0) := by kernel_rfl
@[go_sem] theorem tsz291 : tsz Proofs.Tryz.prog 291 = 1 := by kernel_rfl
@[go_sem] theorem tagg291 : tagg Proofs.Tryz.prog 291 = some false := by kernel_rfl
@[go_sem] theorem tby291 : tby Proofs.Tryz.prog 291 = 8 := by kernel_rfl
@[go_sem] theorem tzero291 : tzero Proofs.Tryz.prog 291 = some (.nilfn) := by kernel_rfl
@[go_sem] theorem tsz292 : tsz Proofs.Tryz.prog 292 = 1 := by kernel_rfl
@[go_sem] theorem tagg292 : tagg Proofs.Tryz.prog 292 = some false := by kernel_rfl
@[go_sem] theorem tby292 : tby Proofs.Tryz.prog 292 = 4 := by kernel_rfl
@[go_sem] theorem tzero292 : tzero Proofs.Tryz.prog 292 = some (.int .i32 0) := by kernel_rfl
@[go_sem] theorem tsz293 : tsz Proofs.Tryz.prog 293 = 1 := by kernel_rfl
@[go_sem] theorem tagg293 : tagg Proofs.Tryz.prog 293 = some false := by kernel_rfl
@[go_sem] theorem tby293 : tby Proofs.Tryz.prog 293 = 4 := by kernel_rfl
@[go_sem] theorem tzero293 : tzero Proofs.Tryz.prog 293 = some (.int .i32 0) := by kernel_rfl
@[go_sem] theorem tsz294 : tsz Proofs.Tryz.prog 294 = 11 := by kernel_rfl
@[go_sem] theorem tagg294 : tagg Proofs.Tryz.prog 294 = some true := by kernel_rfl
@[go_sem] theorem tby294 : tby Proofs.Tryz.prog 294 = 48 := by kernel_rfl
@[go_sem] theorem tzero294 : tzero Proofs.Tryz.prog 294 = some (.agg [.int .u64 0, .int .u64 0, .int .u32 0, .int .u8 0, .int .u8 0, .int .u8 0, .int .u8 0, .nilfn, .nilp, .int .i32 0, .int .i32 0]) := by kernel_rfl
@[go_sem] theorem tsz295 : tsz Proofs.Tryz.prog 295 = 11 := by kernel_rfl
@[go_sem] theorem tagg295 : tagg Proofs.Tryz.prog 295 = some true := by kernel_rfl
@[go_sem] theorem tby295 : tby Proofs.Tryz.prog 295 = 48 := by kernel_rfl
@[go_sem] theorem tzero295 : tzero Proofs.Tryz.prog 295 = some (.agg [.int .u64 0, .int .u64 0, .int .u32 0, .int .u8 0, .int .u8 0, .int .u8 0, .int .u8 0, .nilfn, .nilp, .int .i32 0, .int .i32 0]) := by kernel_rfl
attribute [go_sem] Proofs.Tryz.underlying0 Proofs.Tryz.underlying1 Proofs.Tryz.underlying2 Proofs.Tryz.underlying3 Proofs.Tryz.underlying4 Proofs.Tryz.underlying5 Proofs.Tryz.underlying6 Proofs.Tryz.underlying7 Proofs.Tryz.underlying8 Proofs.Tryz.underlying9 Proofs.Tryz.underlying11 Proofs.Tryz.underlying12 Proofs.Tryz.underlying16 Proofs.Tryz.underlying17 Proofs.Tryz.underlying20 Proofs.Tryz.underlying21 Proofs.Tryz.underlying22 Proofs.Tryz.underlying24 Proofs.Tryz.underlying26 Proofs.Tryz.underlying27 Proofs.Tryz.underlying29 Proofs.Tryz.underlying31 Proofs.Tryz.underlying32 Proofs.Tryz.underlying36 Proofs.Tryz.underlying40 Proofs.Tryz.underlying44 Proofs.Tryz.underlying45 Proofs.Tryz.underlying46 Proofs.Tryz.underlying47 Proofs.Tryz.underlying48 Proofs.Tryz.underlying49 Proofs.Tryz.underlying50 Proofs.Tryz.underlying52 Proofs.Tryz.underlying54 Proofs.Tryz.underlying55 Proofs.Tryz.underlying56 Proofs.Tryz.underlying63 Proofs.Tryz.underlying64 Proofs.Tryz.underlying65 Proofs.Tryz.underlying69 Proofs.Tryz.underlying70 Proofs.Tryz.underlying71 Proofs.Tryz.underlying72 Proofs.Tryz.underlying79 Proofs.Tryz.underlying81 Proofs.Tryz.underlying88 Proofs.Tryz.underlying89 Proofs.Tryz.underlying93 Proofs.Tryz.underlying102 Proofs.Tryz.underlying105 Proofs.Tryz.underlying106 Proofs.Tryz.underlying107 Proofs.Tryz.underlying108 Proofs.Tryz.underlying111 Proofs.Tryz.underlying116 Proofs.Tryz.underlying117 Proofs.Tryz.underlying118 Proofs.Tryz.underlying119 Proofs.Tryz.underlying120 Proofs.Tryz.underlying122 Proofs.Tryz.underlying127 Proofs.Tryz.underlying137 Proofs.Tryz.underlying149 Proofs.Tryz.underlying150 Proofs.Tryz.underlying151 Proofs.Tryz.underlying154 Proofs.Tryz.underlying155 Proofs.Tryz.underlying158 Proofs.Tryz.underlying160 Proofs.Tryz.underlying161 Proofs.Tryz.underlying162 Proofs.Tryz.underlying163 Proofs.Tryz.underlying164 Proofs.Tryz.underlying165 Proofs.Tryz.underlying167 Proofs.Tryz.underlying179 Proofs.Tryz.underlying182 Proofs.Tryz.underlying190 Proofs.Tryz.underlying196 Proofs.Tryz.underlying197 Proofs.Tryz.underlying209 Proofs.Tryz.underlying210 Proofs.Tryz.underlying211 Proofs.Tryz.underlying214 Proofs.Tryz.underlying215 Proofs.Tryz.underlying221 Proofs.Tryz.underlying222 Proofs.Tryz.underlying223 Proofs.Tryz.underlying229 Proofs.Tryz.underlying230 Proofs.Tryz.underlying231 Proofs.Tryz.underlying232 Proofs.Tryz.underlying233 Proofs.Tryz.underlying234 Proofs.Tryz.underlying235 Proofs.Tryz.underlying236 Proofs.Tryz.underlying237 Proofs.Tryz.underlying242 Proofs.Tryz.underlying249 Proofs.Tryz.underlying254 Proofs.Tryz.underlying255 Proofs.Tryz.underlying263 Proofs.Tryz.underlying266 Proofs.Tryz.underlying269 Proofs.Tryz.underlying272 Proofs.Tryz.underlying273 Proofs.Tryz.underlying282 Proofs.Tryz.underlying283 Proofs.Tryz.underlying286 Proofs.Tryz.underlying287 Proofs.Tryz.underlying288 Proofs.Tryz.underlying289 Proofs.Tryz.underlying290 Proofs.Tryz.underlying291 Proofs.Tryz.underlying292 Proofs.Tryz.underlying293 Proofs.Tryz.underlying294 Proofs.Tryz.underlying295
end Go.Fly.Tryz
