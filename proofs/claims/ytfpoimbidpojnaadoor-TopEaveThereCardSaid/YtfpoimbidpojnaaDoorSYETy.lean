/- MADE BY PROGRAM (gentypes.py): closed facts of the program's types. -/
import Derived.Test.YtfpoimbidpojnaaDoorAD
import Derived.Test.YtfpoimbidpojnaaDoorProg
import Derived.KernelRfl
set_option linter.unusedSimpArgs false
set_option linter.unusedVariables false
namespace Go.Fly.Tryd
open Go
@[go_sem] theorem tsz1 : tsz Proofs.Tryd.prog 1 = 1 := by kernel_rfl
@[go_sem] theorem tagg1 : tagg Proofs.Tryd.prog 1 = some false := by kernel_rfl
@[go_sem] theorem tby1 : tby Proofs.Tryd.prog 1 = 8 := by kernel_rfl
@[go_sem] theorem tzero1 : tzero Proofs.Tryd.prog 1 = some (.nilfn) := by kernel_rfl
@[go_sem] theorem tsz2 : tsz Proofs.Tryd.prog 2 = 1 := by kernel_rfl
@[go_sem] theorem tagg2 : tagg Proofs.Tryd.prog 2 = some false := by kernel_rfl
@[go_sem] theorem tby2 : tby Proofs.Tryd.prog 2 = 8 := by kernel_rfl
@[go_sem] theorem tzero2 : tzero Proofs.Tryd.prog 2 = some (.int .i64 0) := by kernel_rfl
@[go_sem] theorem tsz3 : tsz Proofs.Tryd.prog 3 = 1 := by kernel_rfl
@[go_sem] theorem tagg3 : tagg Proofs.Tryd.prog 3 = some false := by kernel_rfl
@[go_sem] theorem tby3 : tby Proofs.Tryd.prog 3 = 8 := by kernel_rfl
@[go_sem] theorem tzero3 : tzero Proofs.Tryd.prog 3 = some (.int .i64 0) := by kernel_rfl
@[go_sem] theorem tsz4 : tsz Proofs.Tryd.prog 4 = 1 := by kernel_rfl
@[go_sem] theorem tagg4 : tagg Proofs.Tryd.prog 4 = some false := by kernel_rfl
@[go_sem] theorem tby4 : tby Proofs.Tryd.prog 4 = 1 := by kernel_rfl
@[go_sem] theorem tzero4 : tzero Proofs.Tryd.prog 4 = some (.bool false) := by kernel_rfl
@[go_sem] theorem tsz5 : tsz Proofs.Tryd.prog 5 = 1 := by kernel_rfl
@[go_sem] theorem tagg5 : tagg Proofs.Tryd.prog 5 = some false := by kernel_rfl
@[go_sem] theorem tby5 : tby Proofs.Tryd.prog 5 = 1 := by kernel_rfl
@[go_sem] theorem tzero5 : tzero Proofs.Tryd.prog 5 = some (.int .u8 0) := by kernel_rfl
@[go_sem] theorem tsz6 : tsz Proofs.Tryd.prog 6 = 1 := by kernel_rfl
@[go_sem] theorem tagg6 : tagg Proofs.Tryd.prog 6 = some false := by kernel_rfl
@[go_sem] theorem tby6 : tby Proofs.Tryd.prog 6 = 1 := by kernel_rfl
@[go_sem] theorem tzero6 : tzero Proofs.Tryd.prog 6 = some (.int .u8 0) := by kernel_rfl
@[go_sem] theorem tsz7 : tsz Proofs.Tryd.prog 7 = 4 := by kernel_rfl
@[go_sem] theorem tagg7 : tagg Proofs.Tryd.prog 7 = some true := by kernel_rfl
@[go_sem] theorem tby7 : tby Proofs.Tryd.prog 7 = 24 := by kernel_rfl
@[go_sem] theorem tzero7 : tzero Proofs.Tryd.prog 7 = some (.agg [.int .i64 0, .int .i64 0, .bool false, .int .u8 0]) := by kernel_rfl
@[go_sem] theorem tsz8 : tsz Proofs.Tryd.prog 8 = 4 := by kernel_rfl
@[go_sem] theorem tagg8 : tagg Proofs.Tryd.prog 8 = some true := by kernel_rfl
@[go_sem] theorem tby8 : tby Proofs.Tryd.prog 8 = 24 := by kernel_rfl
@[go_sem] theorem tzero8 : tzero Proofs.Tryd.prog 8 = some (.agg [.int .i64 0, .int .i64 0, .bool false, .int .u8 0]) := by kernel_rfl
@[go_sem] theorem tsz9 : tsz Proofs.Tryd.prog 9 = 1 := by kernel_rfl
@[go_sem] theorem tagg9 : tagg Proofs.Tryd.prog 9 = some false := by kernel_rfl
@[go_sem] theorem tby9 : tby Proofs.Tryd.prog 9 = 16 := by kernel_rfl
@[go_sem] theorem tzero9 : tzero Proofs.Tryd.prog 9 = some (.str []) := by kernel_rfl
@[go_sem] theorem tsz10 : tsz Proofs.Tryd.prog 10 = 1 := by kernel_rfl
@[go_sem] theorem tagg10 : tagg Proofs.Tryd.prog 10 = some false := by kernel_rfl
@[go_sem] theorem tby10 : tby Proofs.Tryd.prog 10 = 16 := by kernel_rfl
@[go_sem] theorem tzero10 : tzero Proofs.Tryd.prog 10 = some (.str []) := by kernel_rfl
@[go_sem] theorem tsz11 : tsz Proofs.Tryd.prog 11 = 1 := by kernel_rfl
@[go_sem] theorem tagg11 : tagg Proofs.Tryd.prog 11 = some false := by kernel_rfl
@[go_sem] theorem tby11 : tby Proofs.Tryd.prog 11 = 16 := by kernel_rfl
@[go_sem] theorem tzero11 : tzero Proofs.Tryd.prog 11 = some (.str []) := by kernel_rfl
@[go_sem] theorem tsz12 : tsz Proofs.Tryd.prog 12 = 1 := by kernel_rfl
@[go_sem] theorem tagg12 : tagg Proofs.Tryd.prog 12 = some false := by kernel_rfl
@[go_sem] theorem tby12 : tby Proofs.Tryd.prog 12 = 8 := by kernel_rfl
@[go_sem] theorem tzero12 : tzero Proofs.Tryd.prog 12 = some (.int .u64 0) := by kernel_rfl
@[go_sem] theorem tsz13 : tsz Proofs.Tryd.prog 13 = 2 := by kernel_rfl
@[go_sem] theorem tagg13 : tagg Proofs.Tryd.prog 13 = some true := by kernel_rfl
@[go_sem] theorem tby13 : tby Proofs.Tryd.prog 13 = 24 := by kernel_rfl
@[go_sem] theorem tzero13 : tzero Proofs.Tryd.prog 13 = some (.agg [.str [], .int .u64 0]) := by kernel_rfl
@[go_sem] theorem tsz14 : tsz Proofs.Tryd.prog 14 = 2 := by kernel_rfl
@[go_sem] theorem tagg14 : tagg Proofs.Tryd.prog 14 = some true := by kernel_rfl
@[go_sem] theorem tby14 : tby Proofs.Tryd.prog 14 = 24 := by kernel_rfl
@[go_sem] theorem tzero14 : tzero Proofs.Tryd.prog 14 = some (.agg [.str [], .int .u64 0]) := by kernel_rfl
@[go_sem] theorem tsz15 : tsz Proofs.Tryd.prog 15 = 1 := by kernel_rfl
@[go_sem] theorem tagg15 : tagg Proofs.Tryd.prog 15 = some false := by kernel_rfl
@[go_sem] theorem tby15 : tby Proofs.Tryd.prog 15 = 8 := by kernel_rfl
@[go_sem] theorem tzero15 : tzero Proofs.Tryd.prog 15 = some (.nilp) := by kernel_rfl
@[go_sem] theorem tsz16 : tsz Proofs.Tryd.prog 16 = 1 := by kernel_rfl
@[go_sem] theorem tagg16 : tagg Proofs.Tryd.prog 16 = some false := by kernel_rfl
@[go_sem] theorem tby16 : tby Proofs.Tryd.prog 16 = 8 := by kernel_rfl
@[go_sem] theorem tzero16 : tzero Proofs.Tryd.prog 16 = some (.nilp) := by kernel_rfl
@[go_sem] theorem tsz17 : tsz Proofs.Tryd.prog 17 = 1 := by kernel_rfl
@[go_sem] theorem tagg17 : tagg Proofs.Tryd.prog 17 = some false := by kernel_rfl
@[go_sem] theorem tby17 : tby Proofs.Tryd.prog 17 = 8 := by kernel_rfl
@[go_sem] theorem tzero17 : tzero Proofs.Tryd.prog 17 = some (.nilp) := by kernel_rfl
@[go_sem] theorem tsz18 : tsz Proofs.Tryd.prog 18 = 1 := by kernel_rfl
@[go_sem] theorem tagg18 : tagg Proofs.Tryd.prog 18 = some true := by kernel_rfl
@[go_sem] theorem tby18 : tby Proofs.Tryd.prog 18 = 8 := by kernel_rfl
@[go_sem] theorem tzero18 : tzero Proofs.Tryd.prog 18 = some (.agg [.nilp]) := by kernel_rfl
@[go_sem] theorem tsz19 : tsz Proofs.Tryd.prog 19 = 1 := by kernel_rfl
@[go_sem] theorem tagg19 : tagg Proofs.Tryd.prog 19 = some true := by kernel_rfl
@[go_sem] theorem tby19 : tby Proofs.Tryd.prog 19 = 8 := by kernel_rfl
@[go_sem] theorem tzero19 : tzero Proofs.Tryd.prog 19 = some (.agg [.nilp]) := by kernel_rfl
@[go_sem] theorem tsz20 : tsz Proofs.Tryd.prog 20 = 1 := by kernel_rfl
@[go_sem] theorem tagg20 : tagg Proofs.Tryd.prog 20 = some false := by kernel_rfl
@[go_sem] theorem tby20 : tby Proofs.Tryd.prog 20 = 16 := by kernel_rfl
@[go_sem] theorem tsz21 : tsz Proofs.Tryd.prog 21 = 1 := by kernel_rfl
@[go_sem] theorem tagg21 : tagg Proofs.Tryd.prog 21 = some false := by kernel_rfl
@[go_sem] theorem tby21 : tby Proofs.Tryd.prog 21 = 4 := by kernel_rfl
@[go_sem] theorem tzero21 : tzero Proofs.Tryd.prog 21 = some (.int .i32 0) := by kernel_rfl
@[go_sem] theorem tsz22 : tsz Proofs.Tryd.prog 22 = 1 := by kernel_rfl
@[go_sem] theorem tagg22 : tagg Proofs.Tryd.prog 22 = some false := by kernel_rfl
@[go_sem] theorem tby22 : tby Proofs.Tryd.prog 22 = 24 := by kernel_rfl
@[go_sem] theorem tzero22 : tzero Proofs.Tryd.prog 22 = some (.nils) := by kernel_rfl
@[go_sem] theorem tsz23 : tsz Proofs.Tryd.prog 23 = 1 := by kernel_rfl
@[go_sem] theorem tagg23 : tagg Proofs.Tryd.prog 23 = some false := by kernel_rfl
@[go_sem] theorem tby23 : tby Proofs.Tryd.prog 23 = 24 := by kernel_rfl
@[go_sem] theorem tzero23 : tzero Proofs.Tryd.prog 23 = some (.nils) := by kernel_rfl
@[go_sem] theorem tsz24 : tsz Proofs.Tryd.prog 24 = 1 := by kernel_rfl
@[go_sem] theorem tagg24 : tagg Proofs.Tryd.prog 24 = some false := by kernel_rfl
@[go_sem] theorem tby24 : tby Proofs.Tryd.prog 24 = 24 := by kernel_rfl
@[go_sem] theorem tzero24 : tzero Proofs.Tryd.prog 24 = some (.nils) := by kernel_rfl
@[go_sem] theorem tsz25 : tsz Proofs.Tryd.prog 25 = 3 := by kernel_rfl
@[go_sem] theorem tagg25 : tagg Proofs.Tryd.prog 25 = some true := by kernel_rfl
@[go_sem] theorem tby25 : tby Proofs.Tryd.prog 25 = 24 := by kernel_rfl
@[go_sem] theorem tzero25 : tzero Proofs.Tryd.prog 25 = some (.agg [.int .i64 0, .int .i64 0, .int .i64 0]) := by kernel_rfl
@[go_sem] theorem tsz26 : tsz Proofs.Tryd.prog 26 = 3 := by kernel_rfl
@[go_sem] theorem tagg26 : tagg Proofs.Tryd.prog 26 = some true := by kernel_rfl
@[go_sem] theorem tby26 : tby Proofs.Tryd.prog 26 = 24 := by kernel_rfl
@[go_sem] theorem tzero26 : tzero Proofs.Tryd.prog 26 = some (.agg [.int .i64 0, .int .i64 0, .int .i64 0]) := by kernel_rfl
@[go_sem] theorem tsz27 : tsz Proofs.Tryd.prog 27 = 10 := by kernel_rfl
@[go_sem] theorem tagg27 : tagg Proofs.Tryd.prog 27 = some true := by kernel_rfl
@[go_sem] theorem tby27 : tby Proofs.Tryd.prog 27 = 128 := by kernel_rfl
@[go_sem] theorem tzero27 : tzero Proofs.Tryd.prog 27 = some (.agg [.nils, .nils, .nils, .int .i64 0, .int .i64 0, .int .i64 0, .int .i64 0, .int .i64 0, .int .i64 0, .int .i64 0]) := by kernel_rfl
@[go_sem] theorem tsz28 : tsz Proofs.Tryd.prog 28 = 10 := by kernel_rfl
@[go_sem] theorem tagg28 : tagg Proofs.Tryd.prog 28 = some true := by kernel_rfl
@[go_sem] theorem tby28 : tby Proofs.Tryd.prog 28 = 128 := by kernel_rfl
@[go_sem] theorem tzero28 : tzero Proofs.Tryd.prog 28 = some (.agg [.nils, .nils, .nils, .int .i64 0, .int .i64 0, .int .i64 0, .int .i64 0, .int .i64 0, .int .i64 0, .int .i64 0]) := by kernel_rfl
@[go_sem] theorem tsz29 : tsz Proofs.Tryd.prog 29 = 1 := by kernel_rfl
@[go_sem] theorem tagg29 : tagg Proofs.Tryd.prog 29 = some false := by kernel_rfl
@[go_sem] theorem tby29 : tby Proofs.Tryd.prog 29 = 8 := by kernel_rfl
@[go_sem] theorem tzero29 : tzero Proofs.Tryd.prog 29 = some (.nilfn) := by kernel_rfl
@[go_sem] theorem tsz30 : tsz Proofs.Tryd.prog 30 = 1 := by kernel_rfl
@[go_sem] theorem tagg30 : tagg Proofs.Tryd.prog 30 = some false := by kernel_rfl
@[go_sem] theorem tby30 : tby Proofs.Tryd.prog 30 = 8 := by kernel_rfl
@[go_sem] theorem tzero30 : tzero Proofs.Tryd.prog 30 = some (.nilfn) := by kernel_rfl
@[go_sem] theorem tsz31 : tsz Proofs.Tryd.prog 31 = 1 := by kernel_rfl
@[go_sem] theorem tagg31 : tagg Proofs.Tryd.prog 31 = some false := by kernel_rfl
@[go_sem] theorem tby31 : tby Proofs.Tryd.prog 31 = 24 := by kernel_rfl
@[go_sem] theorem tzero31 : tzero Proofs.Tryd.prog 31 = some (.nils) := by kernel_rfl
@[go_sem] theorem tsz33 : tsz Proofs.Tryd.prog 33 = 1 := by kernel_rfl
@[go_sem] theorem tagg33 : tagg Proofs.Tryd.prog 33 = some false := by kernel_rfl
@[go_sem] theorem tby33 : tby Proofs.Tryd.prog 33 = 8 := by kernel_rfl
@[go_sem] theorem tzero33 : tzero Proofs.Tryd.prog 33 = some (.nilfn) := by kernel_rfl
@[go_sem] theorem tsz34 : tsz Proofs.Tryd.prog 34 = 1 := by kernel_rfl
@[go_sem] theorem tagg34 : tagg Proofs.Tryd.prog 34 = some false := by kernel_rfl
@[go_sem] theorem tby34 : tby Proofs.Tryd.prog 34 = 8 := by kernel_rfl
@[go_sem] theorem tzero34 : tzero Proofs.Tryd.prog 34 = some (.nilfn) := by kernel_rfl
@[go_sem] theorem tsz35 : tsz Proofs.Tryd.prog 35 = 2 := by kernel_rfl
@[go_sem] theorem tagg35 : tagg Proofs.Tryd.prog 35 = some true := by kernel_rfl
@[go_sem] theorem tby35 : tby Proofs.Tryd.prog 35 = 16 := by kernel_rfl
@[go_sem] theorem tzero35 : tzero Proofs.Tryd.prog 35 = some (.agg [.int .i64 0, .int .i64 0]) := by kernel_rfl
@[go_sem] theorem tsz36 : tsz Proofs.Tryd.prog 36 = 2 := by kernel_rfl
@[go_sem] theorem tagg36 : tagg Proofs.Tryd.prog 36 = some true := by kernel_rfl
@[go_sem] theorem tby36 : tby Proofs.Tryd.prog 36 = 16 := by kernel_rfl
@[go_sem] theorem tzero36 : tzero Proofs.Tryd.prog 36 = some (.agg [.int .i64 0, .int .i64 0]) := by kernel_rfl
@[go_sem] theorem tsz37 : tsz Proofs.Tryd.prog 37 = 1 := by kernel_rfl
@[go_sem] theorem tagg37 : tagg Proofs.Tryd.prog 37 = some false := by kernel_rfl
@[go_sem] theorem tby37 : tby Proofs.Tryd.prog 37 = 24 := by kernel_rfl
@[go_sem] theorem tzero37 : tzero Proofs.Tryd.prog 37 = some (.nils) := by kernel_rfl
@[go_sem] theorem tsz38 : tsz Proofs.Tryd.prog 38 = 1 := by kernel_rfl
@[go_sem] theorem tagg38 : tagg Proofs.Tryd.prog 38 = some false := by kernel_rfl
@[go_sem] theorem tby38 : tby Proofs.Tryd.prog 38 = 8 := by kernel_rfl
@[go_sem] theorem tzero38 : tzero Proofs.Tryd.prog 38 = some (.int .i64 0) := by kernel_rfl
@[go_sem] theorem tsz40 : tsz Proofs.Tryd.prog 40 = 1 := by kernel_rfl
@[go_sem] theorem tagg40 : tagg Proofs.Tryd.prog 40 = some false := by kernel_rfl
@[go_sem] theorem tby40 : tby Proofs.Tryd.prog 40 = 8 := by kernel_rfl
@[go_sem] theorem tzero40 : tzero Proofs.Tryd.prog 40 = some (.nilfn) := by kernel_rfl
@[go_sem] theorem tsz41 : tsz Proofs.Tryd.prog 41 = 1 := by kernel_rfl
@[go_sem] theorem tagg41 : tagg Proofs.Tryd.prog 41 = some false := by kernel_rfl
@[go_sem] theorem tby41 : tby Proofs.Tryd.prog 41 = 8 := by kernel_rfl
@[go_sem] theorem tzero41 : tzero Proofs.Tryd.prog 41 = some (.nilfn) := by kernel_rfl
@[go_sem] theorem tsz43 : tsz Proofs.Tryd.prog 43 = 1 := by kernel_rfl
@[go_sem] theorem tagg43 : tagg Proofs.Tryd.prog 43 = some false := by kernel_rfl
@[go_sem] theorem tby43 : tby Proofs.Tryd.prog 43 = 8 := by kernel_rfl
@[go_sem] theorem tzero43 : tzero Proofs.Tryd.prog 43 = some (.nilfn) := by kernel_rfl
@[go_sem] theorem tsz44 : tsz Proofs.Tryd.prog 44 = 6 := by kernel_rfl
@[go_sem] theorem tagg44 : tagg Proofs.Tryd.prog 44 = some true := by kernel_rfl
@[go_sem] theorem tby44 : tby Proofs.Tryd.prog 44 = 48 := by kernel_rfl
@[go_sem] theorem tzero44 : tzero Proofs.Tryd.prog 44 = some (.agg [.int .i64 0, .int .i64 0, .int .i64 0, .int .i64 0, .int .i64 0, .int .i64 0]) := by kernel_rfl
@[go_sem] theorem tsz45 : tsz Proofs.Tryd.prog 45 = 6 := by kernel_rfl
@[go_sem] theorem tagg45 : tagg Proofs.Tryd.prog 45 = some true := by kernel_rfl
@[go_sem] theorem tby45 : tby Proofs.Tryd.prog 45 = 48 := by kernel_rfl
@[go_sem] theorem tzero45 : tzero Proofs.Tryd.prog 45 = some (.agg [.int .i64 0, .int .i64 0, .int .i64 0, .int .i64 0, .int .i64 0, .int .i64 0]) := by kernel_rfl
@[go_sem] theorem tsz46 : tsz Proofs.Tryd.prog 46 = 1 := by kernel_rfl
@[go_sem] theorem tagg46 : tagg Proofs.Tryd.prog 46 = some false := by kernel_rfl
@[go_sem] theorem tby46 : tby Proofs.Tryd.prog 46 = 8 := by kernel_rfl
@[go_sem] theorem tzero46 : tzero Proofs.Tryd.prog 46 = some (.nilfn) := by kernel_rfl
@[go_sem] theorem tsz48 : tsz Proofs.Tryd.prog 48 = 1 := by kernel_rfl
@[go_sem] theorem tagg48 : tagg Proofs.Tryd.prog 48 = some false := by kernel_rfl
@[go_sem] theorem tby48 : tby Proofs.Tryd.prog 48 = 8 := by kernel_rfl
@[go_sem] theorem tzero48 : tzero Proofs.Tryd.prog 48 = some (.nilfn) := by kernel_rfl
@[go_sem] theorem tsz49 : tsz Proofs.Tryd.prog 49 = 1 := by kernel_rfl
@[go_sem] theorem tagg49 : tagg Proofs.Tryd.prog 49 = some false := by kernel_rfl
@[go_sem] theorem tby49 : tby Proofs.Tryd.prog 49 = 8 := by kernel_rfl
@[go_sem] theorem tzero49 : tzero Proofs.Tryd.prog 49 = some (.nilfn) := by kernel_rfl
@[go_sem] theorem tsz50 : tsz Proofs.Tryd.prog 50 = 2 := by kernel_rfl
@[go_sem] theorem tagg50 : tagg Proofs.Tryd.prog 50 = some true := by kernel_rfl
@[go_sem] theorem tby50 : tby Proofs.Tryd.prog 50 = 16 := by kernel_rfl
@[go_sem] theorem tzero50 : tzero Proofs.Tryd.prog 50 = some (.agg [.int .i64 0, .int .i64 0]) := by kernel_rfl
@[go_sem] theorem tsz51 : tsz Proofs.Tryd.prog 51 = 2 := by kernel_rfl
@[go_sem] theorem tagg51 : tagg Proofs.Tryd.prog 51 = some true := by kernel_rfl
@[go_sem] theorem tby51 : tby Proofs.Tryd.prog 51 = 16 := by kernel_rfl
@[go_sem] theorem tzero51 : tzero Proofs.Tryd.prog 51 = some (.agg [.int .i64 0, .int .i64 0]) := by kernel_rfl
@[go_sem] theorem tsz52 : tsz Proofs.Tryd.prog 52 = 7 := by kernel_rfl
@[go_sem] theorem tagg52 : tagg Proofs.Tryd.prog 52 = some true := by kernel_rfl
@[go_sem] theorem tby52 : tby Proofs.Tryd.prog 52 = 64 := by kernel_rfl
@[go_sem] theorem tzero52 : tzero Proofs.Tryd.prog 52 = some (.agg [.str [], .int .i64 0, .int .i64 0, .int .i64 0, .int .i64 0, .int .i64 0, .int .i64 0]) := by kernel_rfl
@[go_sem] theorem tsz53 : tsz Proofs.Tryd.prog 53 = 7 := by kernel_rfl
@[go_sem] theorem tagg53 : tagg Proofs.Tryd.prog 53 = some true := by kernel_rfl
@[go_sem] theorem tby53 : tby Proofs.Tryd.prog 53 = 64 := by kernel_rfl
@[go_sem] theorem tzero53 : tzero Proofs.Tryd.prog 53 = some (.agg [.str [], .int .i64 0, .int .i64 0, .int .i64 0, .int .i64 0, .int .i64 0, .int .i64 0]) := by kernel_rfl
@[go_sem] theorem tsz54 : tsz Proofs.Tryd.prog 54 = 1 := by kernel_rfl
@[go_sem] theorem tagg54 : tagg Proofs.Tryd.prog 54 = some false := by kernel_rfl
@[go_sem] theorem tby54 : tby Proofs.Tryd.prog 54 = 24 := by kernel_rfl
@[go_sem] theorem tzero54 : tzero Proofs.Tryd.prog 54 = some (.nils) := by kernel_rfl
@[go_sem] theorem tsz55 : tsz Proofs.Tryd.prog 55 = 1 := by kernel_rfl
@[go_sem] theorem tagg55 : tagg Proofs.Tryd.prog 55 = some false := by kernel_rfl
@[go_sem] theorem tby55 : tby Proofs.Tryd.prog 55 = 8 := by kernel_rfl
@[go_sem] theorem tzero55 : tzero Proofs.Tryd.prog 55 = some (.nilfn) := by kernel_rfl
@[go_sem] theorem tsz56 : tsz Proofs.Tryd.prog 56 = 2 := by kernel_rfl
@[go_sem] theorem tagg56 : tagg Proofs.Tryd.prog 56 = some true := by kernel_rfl
@[go_sem] theorem tby56 : tby Proofs.Tryd.prog 56 = 16 := by kernel_rfl
@[go_sem] theorem tzero56 : tzero Proofs.Tryd.prog 56 = some (.agg [.int .i64 0, .int .i64 0]) := by kernel_rfl
@[go_sem] theorem tsz57 : tsz Proofs.Tryd.prog 57 = 2 := by kernel_rfl
@[go_sem] theorem tagg57 : tagg Proofs.Tryd.prog 57 = some true := by kernel_rfl
@[go_sem] theorem tby57 : tby Proofs.Tryd.prog 57 = 16 := by kernel_rfl
@[go_sem] theorem tzero57 : tzero Proofs.Tryd.prog 57 = some (.agg [.int .i64 0, .int .i64 0]) := by kernel_rfl
@[go_sem] theorem tsz58 : tsz Proofs.Tryd.prog 58 = 1 := by kernel_rfl
@[go_sem] theorem tagg58 : tagg Proofs.Tryd.prog 58 = some false := by kernel_rfl
@[go_sem] theorem tby58 : tby Proofs.Tryd.prog 58 = 24 := by kernel_rfl
@[go_sem] theorem tzero58 : tzero Proofs.Tryd.prog 58 = some (.nils) := by kernel_rfl
@[go_sem] theorem tsz59 : tsz Proofs.Tryd.prog 59 = 6 := by kernel_rfl
@[go_sem] theorem tagg59 : tagg Proofs.Tryd.prog 59 = some true := by kernel_rfl
@[go_sem] theorem tby59 : tby Proofs.Tryd.prog 59 = 48 := by kernel_rfl
@[go_sem] theorem tzero59 : tzero Proofs.Tryd.prog 59 = some (.agg [.int .i64 0, .int .i64 0, .int .i64 0, .int .i64 0, .int .i64 0, .int .i64 0]) := by kernel_rfl
@[go_sem] theorem tsz61 : tsz Proofs.Tryd.prog 61 = 1 := by kernel_rfl
@[go_sem] theorem tagg61 : tagg Proofs.Tryd.prog 61 = some false := by kernel_rfl
@[go_sem] theorem tby61 : tby Proofs.Tryd.prog 61 = 8 := by kernel_rfl
@[go_sem] theorem tzero61 : tzero Proofs.Tryd.prog 61 = some (.nilfn) := by kernel_rfl
@[go_sem] theorem tsz62 : tsz Proofs.Tryd.prog 62 = 5 := by kernel_rfl
@[go_sem] theorem tagg62 : tagg Proofs.Tryd.prog 62 = some true := by kernel_rfl
@[go_sem] theorem tby62 : tby Proofs.Tryd.prog 62 = 56 := by kernel_rfl
@[go_sem] theorem tzero62 : tzero Proofs.Tryd.prog 62 = some (.agg [.int .i64 0, .int .i64 0, .int .i64 0, .int .i64 0, .nils]) := by kernel_rfl
@[go_sem] theorem tsz63 : tsz Proofs.Tryd.prog 63 = 5 := by kernel_rfl
@[go_sem] theorem tagg63 : tagg Proofs.Tryd.prog 63 = some true := by kernel_rfl
@[go_sem] theorem tby63 : tby Proofs.Tryd.prog 63 = 56 := by kernel_rfl
@[go_sem] theorem tzero63 : tzero Proofs.Tryd.prog 63 = some (.agg [.int .i64 0, .int .i64 0, .int .i64 0, .int .i64 0, .nils]) := by kernel_rfl
@[go_sem] theorem tsz64 : tsz Proofs.Tryd.prog 64 = 1 := by kernel_rfl
@[go_sem] theorem tagg64 : tagg Proofs.Tryd.prog 64 = some false := by kernel_rfl
@[go_sem] theorem tby64 : tby Proofs.Tryd.prog 64 = 24 := by kernel_rfl
@[go_sem] theorem tzero64 : tzero Proofs.Tryd.prog 64 = some (.nils) := by kernel_rfl
@[go_sem] theorem tsz65 : tsz Proofs.Tryd.prog 65 = 1 := by kernel_rfl
@[go_sem] theorem tagg65 : tagg Proofs.Tryd.prog 65 = some false := by kernel_rfl
@[go_sem] theorem tby65 : tby Proofs.Tryd.prog 65 = 8 := by kernel_rfl
@[go_sem] theorem tzero65 : tzero Proofs.Tryd.prog 65 = some (.nilfn) := by kernel_rfl
@[go_sem] theorem tsz66 : tsz Proofs.Tryd.prog 66 = 1 := by kernel_rfl
@[go_sem] theorem tagg66 : tagg Proofs.Tryd.prog 66 = some false := by kernel_rfl
@[go_sem] theorem tby66 : tby Proofs.Tryd.prog 66 = 8 := by kernel_rfl
@[go_sem] theorem tzero66 : tzero Proofs.Tryd.prog 66 = some (.nilfn) := by kernel_rfl
@[go_sem] theorem tsz67 : tsz Proofs.Tryd.prog 67 = 1 := by kernel_rfl
@[go_sem] theorem tagg67 : tagg Proofs.Tryd.prog 67 = some false := by kernel_rfl
@[go_sem] theorem tby67 : tby Proofs.Tryd.prog 67 = 8 := by kernel_rfl
@[go_sem] theorem tzero67 : tzero Proofs.Tryd.prog 67 = some (.nilfn) := by kernel_rfl
@[go_sem] theorem tsz68 : tsz Proofs.Tryd.prog 68 = 1 := by kernel_rfl
@[go_sem] theorem tagg68 : tagg Proofs.Tryd.prog 68 = some false := by kernel_rfl
@[go_sem] theorem tby68 : tby Proofs.Tryd.prog 68 = 8 := by kernel_rfl
@[go_sem] theorem tzero68 : tzero Proofs.Tryd.prog 68 = some (.nilfn) := by kernel_rfl
@[go_sem] theorem tsz69 : tsz Proofs.Tryd.prog 69 = 1 := by kernel_rfl
@[go_sem] theorem tagg69 : tagg Proofs.Tryd.prog 69 = some false := by kernel_rfl
@[go_sem] theorem tby69 : tby Proofs.Tryd.prog 69 = 8 := by kernel_rfl
@[go_sem] theorem tzero69 : tzero Proofs.Tryd.prog 69 = some (.nilfn) := by kernel_rfl
@[go_sem] theorem tsz70 : tsz Proofs.Tryd.prog 70 = 1 := by kernel_rfl
@[go_sem] theorem tagg70 : tagg Proofs.Tryd.prog 70 = some false := by kernel_rfl
@[go_sem] theorem tby70 : tby Proofs.Tryd.prog 70 = 8 := by kernel_rfl
@[go_sem] theorem tzero70 : tzero Proofs.Tryd.prog 70 = some (.nilfn) := by kernel_rfl
@[go_sem] theorem tsz71 : tsz Proofs.Tryd.prog 71 = 1 := by kernel_rfl
@[go_sem] theorem tagg71 : tagg Proofs.Tryd.prog 71 = some false := by kernel_rfl
@[go_sem] theorem tby71 : tby Proofs.Tryd.prog 71 = 8 := by kernel_rfl
@[go_sem] theorem tzero71 : tzero Proofs.Tryd.prog 71 = some (.nilfn) := by kernel_rfl
@[go_sem] theorem tsz72 : tsz Proofs.Tryd.prog 72 = 1 := by kernel_rfl
@[go_sem] theorem tagg72 : tagg Proofs.Tryd.prog 72 = some false := by kernel_rfl
@[go_sem] theorem tby72 : tby Proofs.Tryd.prog 72 = 8 := by kernel_rfl
@[go_sem] theorem tzero72 : tzero Proofs.Tryd.prog 72 = some (.nilfn) := by kernel_rfl
@[go_sem] theorem tsz73 : tsz Proofs.Tryd.prog 73 = 1 := by kernel_rfl
@[go_sem] theorem tagg73 : tagg Proofs.Tryd.prog 73 = some false := by kernel_rfl
@[go_sem] theorem tby73 : tby Proofs.Tryd.prog 73 = 8 := by kernel_rfl
@[go_sem] theorem tzero73 : tzero Proofs.Tryd.prog 73 = some (.nilfn) := by kernel_rfl
@[go_sem] theorem tsz74 : tsz Proofs.Tryd.prog 74 = 5 := by kernel_rfl
@[go_sem] theorem tagg74 : tagg Proofs.Tryd.prog 74 = some true := by kernel_rfl
@[go_sem] theorem tby74 : tby Proofs.Tryd.prog 74 = 56 := by kernel_rfl
@[go_sem] theorem tzero74 : tzero Proofs.Tryd.prog 74 = some (.agg [.int .i64 0, .int .i64 0, .int .i64 0, .int .i64 0, .nils]) := by kernel_rfl
@[go_sem] theorem tsz75 : tsz Proofs.Tryd.prog 75 = 1 := by kernel_rfl
@[go_sem] theorem tagg75 : tagg Proofs.Tryd.prog 75 = some false := by kernel_rfl
@[go_sem] theorem tby75 : tby Proofs.Tryd.prog 75 = 8 := by kernel_rfl
@[go_sem] theorem tzero75 : tzero Proofs.Tryd.prog 75 = some (.nilfn) := by kernel_rfl
@[go_sem] theorem tsz76 : tsz Proofs.Tryd.prog 76 = 1 := by kernel_rfl
@[go_sem] theorem tagg76 : tagg Proofs.Tryd.prog 76 = some false := by kernel_rfl
@[go_sem] theorem tby76 : tby Proofs.Tryd.prog 76 = 8 := by kernel_rfl
@[go_sem] theorem tzero76 : tzero Proofs.Tryd.prog 76 = some (.nilfn) := by kernel_rfl
@[go_sem] theorem tsz77 : tsz Proofs.Tryd.prog 77 = 1 := by kernel_rfl
@[go_sem] theorem tagg77 : tagg Proofs.Tryd.prog 77 = some false := by kernel_rfl
@[go_sem] theorem tby77 : tby Proofs.Tryd.prog 77 = 8 := by kernel_rfl
@[go_sem] theorem tzero77 : tzero Proofs.Tryd.prog 77 = some (.nilfn) := by kernel_rfl
@[go_sem] theorem tsz78 : tsz Proofs.Tryd.prog 78 = 1 := by kernel_rfl
@[go_sem] theorem tagg78 : tagg Proofs.Tryd.prog 78 = some false := by kernel_rfl
@[go_sem] theorem tby78 : tby Proofs.Tryd.prog 78 = 8 := by kernel_rfl
@[go_sem] theorem tzero78 : tzero Proofs.Tryd.prog 78 = some (.nilfn) := by kernel_rfl
@[go_sem] theorem tsz79 : tsz Proofs.Tryd.prog 79 = 1 := by kernel_rfl
@[go_sem] theorem tagg79 : tagg Proofs.Tryd.prog 79 = some false := by kernel_rfl
@[go_sem] theorem tby79 : tby Proofs.Tryd.prog 79 = 8 := by kernel_rfl
@[go_sem] theorem tzero79 : tzero Proofs.Tryd.prog 79 = some (.nilfn) := by kernel_rfl
@[go_sem] theorem tsz80 : tsz Proofs.Tryd.prog 80 = 1 := by kernel_rfl
@[go_sem] theorem tagg80 : tagg Proofs.Tryd.prog 80 = some false := by kernel_rfl
@[go_sem] theorem tby80 : tby Proofs.Tryd.prog 80 = 8 := by kernel_rfl
@[go_sem] theorem tzero80 : tzero Proofs.Tryd.prog 80 = some (.nilfn) := by kernel_rfl
@[go_sem] theorem tsz81 : tsz Proofs.Tryd.prog 81 = 1 := by kernel_rfl
@[go_sem] theorem tagg81 : tagg Proofs.Tryd.prog 81 = some false := by kernel_rfl
@[go_sem] theorem tby81 : tby Proofs.Tryd.prog 81 = 8 := by kernel_rfl
@[go_sem] theorem tzero81 : tzero Proofs.Tryd.prog 81 = some (.nilfn) := by kernel_rfl
@[go_sem] theorem tsz82 : tsz Proofs.Tryd.prog 82 = 1 := by kernel_rfl
@[go_sem] theorem tagg82 : tagg Proofs.Tryd.prog 82 = some false := by kernel_rfl
@[go_sem] theorem tby82 : tby Proofs.Tryd.prog 82 = 8 := by kernel_rfl
@[go_sem] theorem tzero82 : tzero Proofs.Tryd.prog 82 = some (.nilfn) := by kernel_rfl
@[go_sem] theorem tsz83 : tsz Proofs.Tryd.prog 83 = 2 := by kernel_rfl
@[go_sem] theorem tagg83 : tagg Proofs.Tryd.prog 83 = some true := by kernel_rfl
@[go_sem] theorem tby83 : tby Proofs.Tryd.prog 83 = 16 := by kernel_rfl
@[go_sem] theorem tzero83 : tzero Proofs.Tryd.prog 83 = some (.agg [.int .i64 0, .int .i64 0]) := by kernel_rfl
@[go_sem] theorem tsz84 : tsz Proofs.Tryd.prog 84 = 4 := by kernel_rfl
@[go_sem] theorem tagg84 : tagg Proofs.Tryd.prog 84 = some true := by kernel_rfl
@[go_sem] theorem tby84 : tby Proofs.Tryd.prog 84 = 32 := by kernel_rfl
@[go_sem] theorem tzero84 : tzero Proofs.Tryd.prog 84 = some (.agg [.int .i64 0, .int .i64 0, .int .i64 0, .int .i64 0]) := by kernel_rfl
@[go_sem] theorem tsz85 : tsz Proofs.Tryd.prog 85 = 6 := by kernel_rfl
@[go_sem] theorem tagg85 : tagg Proofs.Tryd.prog 85 = some true := by kernel_rfl
@[go_sem] theorem tby85 : tby Proofs.Tryd.prog 85 = 48 := by kernel_rfl
@[go_sem] theorem tzero85 : tzero Proofs.Tryd.prog 85 = some (.agg [.int .i64 0, .int .i64 0, .int .i64 0, .int .i64 0, .int .i64 0, .int .i64 0]) := by kernel_rfl
@[go_sem] theorem tsz86 : tsz Proofs.Tryd.prog 86 = 6 := by kernel_rfl
@[go_sem] theorem tagg86 : tagg Proofs.Tryd.prog 86 = some true := by kernel_rfl
@[go_sem] theorem tby86 : tby Proofs.Tryd.prog 86 = 48 := by kernel_rfl
@[go_sem] theorem tzero86 : tzero Proofs.Tryd.prog 86 = some (.agg [.int .i64 0, .int .i64 0, .int .i64 0, .int .i64 0, .int .i64 0, .int .i64 0]) := by kernel_rfl
@[go_sem] theorem tsz87 : tsz Proofs.Tryd.prog 87 = 1 := by kernel_rfl
@[go_sem] theorem tagg87 : tagg Proofs.Tryd.prog 87 = some false := by kernel_rfl
@[go_sem] theorem tby87 : tby Proofs.Tryd.prog 87 = 8 := by kernel_rfl
@[go_sem] theorem tzero87 : tzero Proofs.Tryd.prog 87 = some (.nilfn) := by kernel_rfl
@[go_sem] theorem tsz88 : tsz Proofs.Tryd.prog 88 = 1 := by kernel_rfl
@[go_sem] theorem tagg88 : tagg Proofs.Tryd.prog 88 = some false := by kernel_rfl
@[go_sem] theorem tby88 : tby Proofs.Tryd.prog 88 = 8 := by kernel_rfl
@[go_sem] theorem tzero88 : tzero Proofs.Tryd.prog 88 = some (.nilfn) := by kernel_rfl
@[go_sem] theorem tsz89 : tsz Proofs.Tryd.prog 89 = 1 := by kernel_rfl
@[go_sem] theorem tagg89 : tagg Proofs.Tryd.prog 89 = some false := by kernel_rfl
@[go_sem] theorem tby89 : tby Proofs.Tryd.prog 89 = 8 := by kernel_rfl
@[go_sem] theorem tzero89 : tzero Proofs.Tryd.prog 89 = some (.nilfn) := by kernel_rfl
@[go_sem] theorem tsz90 : tsz Proofs.Tryd.prog 90 = 1 := by kernel_rfl
@[go_sem] theorem tagg90 : tagg Proofs.Tryd.prog 90 = some false := by kernel_rfl
@[go_sem] theorem tby90 : tby Proofs.Tryd.prog 90 = 8 := by kernel_rfl
@[go_sem] theorem tzero90 : tzero Proofs.Tryd.prog 90 = some (.nilfn) := by kernel_rfl
@[go_sem] theorem tsz91 : tsz Proofs.Tryd.prog 91 = 1 := by kernel_rfl
@[go_sem] theorem tagg91 : tagg Proofs.Tryd.prog 91 = some false := by kernel_rfl
@[go_sem] theorem tby91 : tby Proofs.Tryd.prog 91 = 8 := by kernel_rfl
@[go_sem] theorem tzero91 : tzero Proofs.Tryd.prog 91 = some (.nilfn) := by kernel_rfl
@[go_sem] theorem tsz92 : tsz Proofs.Tryd.prog 92 = 1 := by kernel_rfl
@[go_sem] theorem tagg92 : tagg Proofs.Tryd.prog 92 = some false := by kernel_rfl
@[go_sem] theorem tby92 : tby Proofs.Tryd.prog 92 = 8 := by kernel_rfl
@[go_sem] theorem tzero92 : tzero Proofs.Tryd.prog 92 = some (.nilfn) := by kernel_rfl
@[go_sem] theorem tsz93 : tsz Proofs.Tryd.prog 93 = 1 := by kernel_rfl
@[go_sem] theorem tagg93 : tagg Proofs.Tryd.prog 93 = some false := by kernel_rfl
@[go_sem] theorem tby93 : tby Proofs.Tryd.prog 93 = 8 := by kernel_rfl
@[go_sem] theorem tzero93 : tzero Proofs.Tryd.prog 93 = some (.nilfn) := by kernel_rfl
@[go_sem] theorem tsz94 : tsz Proofs.Tryd.prog 94 = 1 := by kernel_rfl
@[go_sem] theorem tagg94 : tagg Proofs.Tryd.prog 94 = some false := by kernel_rfl
@[go_sem] theorem tby94 : tby Proofs.Tryd.prog 94 = 8 := by kernel_rfl
@[go_sem] theorem tzero94 : tzero Proofs.Tryd.prog 94 = some (.nilfn) := by kernel_rfl
@[go_sem] theorem tsz95 : tsz Proofs.Tryd.prog 95 = 1 := by kernel_rfl
@[go_sem] theorem tagg95 : tagg Proofs.Tryd.prog 95 = some false := by kernel_rfl
@[go_sem] theorem tby95 : tby Proofs.Tryd.prog 95 = 8 := by kernel_rfl
@[go_sem] theorem tzero95 : tzero Proofs.Tryd.prog 95 = some (.nilfn) := by kernel_rfl
@[go_sem] theorem tsz96 : tsz Proofs.Tryd.prog 96 = 2 := by kernel_rfl
@[go_sem] theorem tagg96 : tagg Proofs.Tryd.prog 96 = some true := by kernel_rfl
@[go_sem] theorem tby96 : tby Proofs.Tryd.prog 96 = 16 := by kernel_rfl
@[go_sem] theorem tzero96 : tzero Proofs.Tryd.prog 96 = some (.agg [.int .i64 0, .int .i64 0]) := by kernel_rfl
@[go_sem] theorem tsz97 : tsz Proofs.Tryd.prog 97 = 2 := by kernel_rfl
@[go_sem] theorem tagg97 : tagg Proofs.Tryd.prog 97 = some true := by kernel_rfl
@[go_sem] theorem tby97 : tby Proofs.Tryd.prog 97 = 16 := by kernel_rfl
@[go_sem] theorem tzero97 : tzero Proofs.Tryd.prog 97 = some (.agg [.int .i64 0, .int .i64 0]) := by kernel_rfl
@[go_sem] theorem tsz98 : tsz Proofs.Tryd.prog 98 = 7 := by kernel_rfl
@[go_sem] theorem tagg98 : tagg Proofs.Tryd.prog 98 = some true := by kernel_rfl
@[go_sem] theorem tby98 : tby Proofs.Tryd.prog 98 = 64 := by kernel_rfl
@[go_sem] theorem tzero98 : tzero Proofs.Tryd.prog 98 = some (.agg [.str [], .int .i64 0, .int .i64 0, .int .i64 0, .int .i64 0, .int .i64 0, .int .i64 0]) := by kernel_rfl
@[go_sem] theorem tsz99 : tsz Proofs.Tryd.prog 99 = 1 := by kernel_rfl
@[go_sem] theorem tagg99 : tagg Proofs.Tryd.prog 99 = some false := by kernel_rfl
@[go_sem] theorem tby99 : tby Proofs.Tryd.prog 99 = 8 := by kernel_rfl
@[go_sem] theorem tzero99 : tzero Proofs.Tryd.prog 99 = some (.nilfn) := by kernel_rfl
@[go_sem] theorem tsz100 : tsz Proofs.Tryd.prog 100 = 1 := by kernel_rfl
@[go_sem] theorem tagg100 : tagg Proofs.Tryd.prog 100 = some false := by kernel_rfl
@[go_sem] theorem tby100 : tby Proofs.Tryd.prog 100 = 8 := by kernel_rfl
@[go_sem] theorem tzero100 : tzero Proofs.Tryd.prog 100 = some (.nilfn) := by kernel_rfl
@[go_sem] theorem tsz101 : tsz Proofs.Tryd.prog 101 = 2 := by kernel_rfl
@[go_sem] theorem tagg101 : tagg Proofs.Tryd.prog 101 = some true := by kernel_rfl
@[go_sem] theorem tby101 : tby Proofs.Tryd.prog 101 = 16 := by kernel_rfl
@[go_sem] theorem tzero101 : tzero Proofs.Tryd.prog 101 = some (.agg [.int .i64 0, .int .i64 0]) := by kernel_rfl
@[go_sem] theorem tsz102 : tsz Proofs.Tryd.prog 102 = 1 := by kernel_rfl
@[go_sem] theorem tagg102 : tagg Proofs.Tryd.prog 102 = some false := by kernel_rfl
@[go_sem] theorem tby102 : tby Proofs.Tryd.prog 102 = 8 := by kernel_rfl
@[go_sem] theorem tzero102 : tzero Proofs.Tryd.prog 102 = some (.nilfn) := by kernel_rfl
@[go_sem] theorem tsz103 : tsz Proofs.Tryd.prog 103 = 1 := by kernel_rfl
@[go_sem] theorem tagg103 : tagg Proofs.Tryd.prog 103 = some false := by kernel_rfl
@[go_sem] theorem tby103 : tby Proofs.Tryd.prog 103 = 8 := by kernel_rfl
@[go_sem] theorem tzero103 : tzero Proofs.Tryd.prog 103 = some (.nilfn) := by kernel_rfl
@[go_sem] theorem tsz104 : tsz Proofs.Tryd.prog 104 = 1 := by kernel_rfl
@[go_sem] theorem tagg104 : tagg Proofs.Tryd.prog 104 = some false := by kernel_rfl
@[go_sem] theorem tby104 : tby Proofs.Tryd.prog 104 = 8 := by kernel_rfl
@[go_sem] theorem tzero104 : tzero Proofs.Tryd.prog 104 = some (.nilfn) := by kernel_rfl
@[go_sem] theorem tsz105 : tsz Proofs.Tryd.prog 105 = 1 := by kernel_rfl
@[go_sem] theorem tagg105 : tagg Proofs.Tryd.prog 105 = some false := by kernel_rfl
@[go_sem] theorem tby105 : tby Proofs.Tryd.prog 105 = 8 := by kernel_rfl
@[go_sem] theorem tzero105 : tzero Proofs.Tryd.prog 105 = some (.nilfn) := by kernel_rfl
@[go_sem] theorem tsz106 : tsz Proofs.Tryd.prog 106 = 1 := by kernel_rfl
@[go_sem] theorem tagg106 : tagg Proofs.Tryd.prog 106 = some false := by kernel_rfl
@[go_sem] theorem tby106 : tby Proofs.Tryd.prog 106 = 8 := by kernel_rfl
@[go_sem] theorem tzero106 : tzero Proofs.Tryd.prog 106 = some (.nilfn) := by kernel_rfl
@[go_sem] theorem tsz107 : tsz Proofs.Tryd.prog 107 = 1 := by kernel_rfl
@[go_sem] theorem tagg107 : tagg Proofs.Tryd.prog 107 = some false := by kernel_rfl
@[go_sem] theorem tby107 : tby Proofs.Tryd.prog 107 = 24 := by kernel_rfl
@[go_sem] theorem tzero107 : tzero Proofs.Tryd.prog 107 = some (.nils) := by kernel_rfl
@[go_sem] theorem tsz108 : tsz Proofs.Tryd.prog 108 = 1 := by kernel_rfl
@[go_sem] theorem tagg108 : tagg Proofs.Tryd.prog 108 = some false := by kernel_rfl
@[go_sem] theorem tby108 : tby Proofs.Tryd.prog 108 = 8 := by kernel_rfl
@[go_sem] theorem tzero108 : tzero Proofs.Tryd.prog 108 = some (.nilfn) := by kernel_rfl
@[go_sem] theorem tsz109 : tsz Proofs.Tryd.prog 109 = 1 := by kernel_rfl
@[go_sem] theorem tagg109 : tagg Proofs.Tryd.prog 109 = some false := by kernel_rfl
@[go_sem] theorem tby109 : tby Proofs.Tryd.prog 109 = 8 := by kernel_rfl
@[go_sem] theorem tzero109 : tzero Proofs.Tryd.prog 109 = some (.nilfn) := by kernel_rfl
@[go_sem] theorem tsz110 : tsz Proofs.Tryd.prog 110 = 1 := by kernel_rfl
@[go_sem] theorem tagg110 : tagg Proofs.Tryd.prog 110 = some false := by kernel_rfl
@[go_sem] theorem tby110 : tby Proofs.Tryd.prog 110 = 8 := by kernel_rfl
@[go_sem] theorem tzero110 : tzero Proofs.Tryd.prog 110 = some (.nilfn) := by kernel_rfl
@[go_sem] theorem tsz111 : tsz Proofs.Tryd.prog 111 = 7 := by kernel_rfl
@[go_sem] theorem tagg111 : tagg Proofs.Tryd.prog 111 = some true := by kernel_rfl
@[go_sem] theorem tby111 : tby Proofs.Tryd.prog 111 = 72 := by kernel_rfl
@[go_sem] theorem tzero111 : tzero Proofs.Tryd.prog 111 = some (.agg [.int .i64 0, .int .i64 0, .int .i64 0, .int .i64 0, .nils, .int .i64 0, .int .i64 0]) := by kernel_rfl
@[go_sem] theorem tsz112 : tsz Proofs.Tryd.prog 112 = 7 := by kernel_rfl
@[go_sem] theorem tagg112 : tagg Proofs.Tryd.prog 112 = some true := by kernel_rfl
@[go_sem] theorem tby112 : tby Proofs.Tryd.prog 112 = 72 := by kernel_rfl
@[go_sem] theorem tzero112 : tzero Proofs.Tryd.prog 112 = some (.agg [.int .i64 0, .int .i64 0, .int .i64 0, .int .i64 0, .nils, .int .i64 0, .int .i64 0]) := by kernel_rfl
@[go_sem] theorem tsz114 : tsz Proofs.Tryd.prog 114 = 1 := by kernel_rfl
@[go_sem] theorem tagg114 : tagg Proofs.Tryd.prog 114 = some false := by kernel_rfl
@[go_sem] theorem tby114 : tby Proofs.Tryd.prog 114 = 8 := by kernel_rfl
@[go_sem] theorem tzero114 : tzero Proofs.Tryd.prog 114 = some (.nilfn) := by kernel_rfl
@[go_sem] theorem tsz115 : tsz Proofs.Tryd.prog 115 = 1 := by kernel_rfl
@[go_sem] theorem tagg115 : tagg Proofs.Tryd.prog 115 = some false := by kernel_rfl
@[go_sem] theorem tby115 : tby Proofs.Tryd.prog 115 = 8 := by kernel_rfl
@[go_sem] theorem tzero115 : tzero Proofs.Tryd.prog 115 = some (.nilfn) := by kernel_rfl
@[go_sem] theorem tsz116 : tsz Proofs.Tryd.prog 116 = 1 := by kernel_rfl
@[go_sem] theorem tagg116 : tagg Proofs.Tryd.prog 116 = some false := by kernel_rfl
@[go_sem] theorem tby116 : tby Proofs.Tryd.prog 116 = 8 := by kernel_rfl
@[go_sem] theorem tzero116 : tzero Proofs.Tryd.prog 116 = some (.nilfn) := by kernel_rfl
@[go_sem] theorem tsz117 : tsz Proofs.Tryd.prog 117 = 1 := by kernel_rfl
@[go_sem] theorem tagg117 : tagg Proofs.Tryd.prog 117 = some false := by kernel_rfl
@[go_sem] theorem tby117 : tby Proofs.Tryd.prog 117 = 8 := by kernel_rfl
@[go_sem] theorem tzero117 : tzero Proofs.Tryd.prog 117 = some (.nilfn) := by kernel_rfl
@[go_sem] theorem tsz118 : tsz Proofs.Tryd.prog 118 = 1 := by kernel_rfl
@[go_sem] theorem tagg118 : tagg Proofs.Tryd.prog 118 = some false := by kernel_rfl
@[go_sem] theorem tby118 : tby Proofs.Tryd.prog 118 = 8 := by kernel_rfl
@[go_sem] theorem tzero118 : tzero Proofs.Tryd.prog 118 = some (.nilfn) := by kernel_rfl
@[go_sem] theorem tsz119 : tsz Proofs.Tryd.prog 119 = 1 := by kernel_rfl
@[go_sem] theorem tagg119 : tagg Proofs.Tryd.prog 119 = some false := by kernel_rfl
@[go_sem] theorem tby119 : tby Proofs.Tryd.prog 119 = 8 := by kernel_rfl
@[go_sem] theorem tzero119 : tzero Proofs.Tryd.prog 119 = some (.nilfn) := by kernel_rfl
@[go_sem] theorem tsz120 : tsz Proofs.Tryd.prog 120 = 1 := by kernel_rfl
@[go_sem] theorem tagg120 : tagg Proofs.Tryd.prog 120 = some false := by kernel_rfl
@[go_sem] theorem tby120 : tby Proofs.Tryd.prog 120 = 8 := by kernel_rfl
@[go_sem] theorem tzero120 : tzero Proofs.Tryd.prog 120 = some (.nilfn) := by kernel_rfl
@[go_sem] theorem tsz122 : tsz Proofs.Tryd.prog 122 = 1 := by kernel_rfl
@[go_sem] theorem tagg122 : tagg Proofs.Tryd.prog 122 = some false := by kernel_rfl
@[go_sem] theorem tby122 : tby Proofs.Tryd.prog 122 = 8 := by kernel_rfl
@[go_sem] theorem tzero122 : tzero Proofs.Tryd.prog 122 = some (.nilfn) := by kernel_rfl
@[go_sem] theorem tsz123 : tsz Proofs.Tryd.prog 123 = 1 := by kernel_rfl
@[go_sem] theorem tagg123 : tagg Proofs.Tryd.prog 123 = some false := by kernel_rfl
@[go_sem] theorem tby123 : tby Proofs.Tryd.prog 123 = 8 := by kernel_rfl
@[go_sem] theorem tzero123 : tzero Proofs.Tryd.prog 123 = some (.nilfn) := by kernel_rfl
@[go_sem] theorem tsz124 : tsz Proofs.Tryd.prog 124 = 1 := by kernel_rfl
@[go_sem] theorem tagg124 : tagg Proofs.Tryd.prog 124 = some false := by kernel_rfl
@[go_sem] theorem tby124 : tby Proofs.Tryd.prog 124 = 8 := by kernel_rfl
@[go_sem] theorem tzero124 : tzero Proofs.Tryd.prog 124 = some (.nilfn) := by kernel_rfl
@[go_sem] theorem tsz125 : tsz Proofs.Tryd.prog 125 = 1 := by kernel_rfl
@[go_sem] theorem tagg125 : tagg Proofs.Tryd.prog 125 = some true := by kernel_rfl
@[go_sem] theorem tby125 : tby Proofs.Tryd.prog 125 = 8 := by kernel_rfl
@[go_sem] theorem tzero125 : tzero Proofs.Tryd.prog 125 = some (.agg [.nilfn]) := by kernel_rfl
@[go_sem] theorem tsz126 : tsz Proofs.Tryd.prog 126 = 1 := by kernel_rfl
@[go_sem] theorem tagg126 : tagg Proofs.Tryd.prog 126 = some true := by kernel_rfl
@[go_sem] theorem tby126 : tby Proofs.Tryd.prog 126 = 8 := by kernel_rfl
@[go_sem] theorem tzero126 : tzero Proofs.Tryd.prog 126 = some (.agg [.nilfn]) := by kernel_rfl
@[go_sem] theorem tsz128 : tsz Proofs.Tryd.prog 128 = 1 := by kernel_rfl
@[go_sem] theorem tagg128 : tagg Proofs.Tryd.prog 128 = some false := by kernel_rfl
@[go_sem] theorem tby128 : tby Proofs.Tryd.prog 128 = 8 := by kernel_rfl
@[go_sem] theorem tzero128 : tzero Proofs.Tryd.prog 128 = some (.nilfn) := by kernel_rfl
@[go_sem] theorem tsz129 : tsz Proofs.Tryd.prog 129 = 1 := by kernel_rfl
@[go_sem] theorem tagg129 : tagg Proofs.Tryd.prog 129 = some false := by kernel_rfl
@[go_sem] theorem tby129 : tby Proofs.Tryd.prog 129 = 8 := by kernel_rfl
@[go_sem] theorem tzero129 : tzero Proofs.Tryd.prog 129 = some (.nilfn) := by kernel_rfl
@[go_sem] theorem tsz130 : tsz Proofs.Tryd.prog 130 = 1 := by kernel_rfl
@[go_sem] theorem tagg130 : tagg Proofs.Tryd.prog 130 = some false := by kernel_rfl
@[go_sem] theorem tby130 : tby Proofs.Tryd.prog 130 = 8 := by kernel_rfl
@[go_sem] theorem tzero130 : tzero Proofs.Tryd.prog 130 = some (.nilfn) := by kernel_rfl
@[go_sem] theorem tsz131 : tsz Proofs.Tryd.prog 131 = 1 := by kernel_rfl
@[go_sem] theorem tagg131 : tagg Proofs.Tryd.prog 131 = some false := by kernel_rfl
@[go_sem] theorem tby131 : tby Proofs.Tryd.prog 131 = 8 := by kernel_rfl
@[go_sem] theorem tzero131 : tzero Proofs.Tryd.prog 131 = some (.nilfn) := by kernel_rfl
@[go_sem] theorem tsz132 : tsz Proofs.Tryd.prog 132 = 1 := by kernel_rfl
@[go_sem] theorem tagg132 : tagg Proofs.Tryd.prog 132 = some false := by kernel_rfl
@[go_sem] theorem tby132 : tby Proofs.Tryd.prog 132 = 8 := by kernel_rfl
@[go_sem] theorem tzero132 : tzero Proofs.Tryd.prog 132 = some (.nilfn) := by kernel_rfl
@[go_sem] theorem tsz133 : tsz Proofs.Tryd.prog 133 = 1 := by kernel_rfl
@[go_sem] theorem tagg133 : tagg Proofs.Tryd.prog 133 = some false := by kernel_rfl
@[go_sem] theorem tby133 : tby Proofs.Tryd.prog 133 = 8 := by kernel_rfl
@[go_sem] theorem tzero133 : tzero Proofs.Tryd.prog 133 = some (.nilfn) := by kernel_rfl
@[go_sem] theorem tsz134 : tsz Proofs.Tryd.prog 134 = 1 := by kernel_rfl
@[go_sem] theorem tagg134 : tagg Proofs.Tryd.prog 134 = some false := by kernel_rfl
@[go_sem] theorem tby134 : tby Proofs.Tryd.prog 134 = 8 := by kernel_rfl
@[go_sem] theorem tzero134 : tzero Proofs.Tryd.prog 134 = some (.nilfn) := by kernel_rfl
@[go_sem] theorem tsz135 : tsz Proofs.Tryd.prog 135 = 1 := by kernel_rfl
@[go_sem] theorem tagg135 : tagg Proofs.Tryd.prog 135 = some false := by kernel_rfl
@[go_sem] theorem tby135 : tby Proofs.Tryd.prog 135 = 8 := by kernel_rfl
@[go_sem] theorem tzero135 : tzero Proofs.Tryd.prog 135 = some (.nilfn) := by kernel_rfl
@[go_sem] theorem tsz136 : tsz Proofs.Tryd.prog 136 = 1 := by kernel_rfl
@[go_sem] theorem tagg136 : tagg Proofs.Tryd.prog 136 = some false := by kernel_rfl
@[go_sem] theorem tby136 : tby Proofs.Tryd.prog 136 = 8 := by kernel_rfl
@[go_sem] theorem tzero136 : tzero Proofs.Tryd.prog 136 = some (.nilfn) := by kernel_rfl
@[go_sem] theorem tsz137 : tsz Proofs.Tryd.prog 137 = 1 := by kernel_rfl
@[go_sem] theorem tagg137 : tagg Proofs.Tryd.prog 137 = some false := by kernel_rfl
@[go_sem] theorem tby137 : tby Proofs.Tryd.prog 137 = 8 := by kernel_rfl
@[go_sem] theorem tzero137 : tzero Proofs.Tryd.prog 137 = some (.nilfn) := by kernel_rfl
@[go_sem] theorem tsz138 : tsz Proofs.Tryd.prog 138 = 1 := by kernel_rfl
@[go_sem] theorem tagg138 : tagg Proofs.Tryd.prog 138 = some false := by kernel_rfl
@[go_sem] theorem tby138 : tby Proofs.Tryd.prog 138 = 8 := by kernel_rfl
@[go_sem] theorem tzero138 : tzero Proofs.Tryd.prog 138 = some (.nilfn) := by kernel_rfl
@[go_sem] theorem tsz139 : tsz Proofs.Tryd.prog 139 = 1 := by kernel_rfl
@[go_sem] theorem tagg139 : tagg Proofs.Tryd.prog 139 = some false := by kernel_rfl
@[go_sem] theorem tby139 : tby Proofs.Tryd.prog 139 = 8 := by kernel_rfl
@[go_sem] theorem tzero139 : tzero Proofs.Tryd.prog 139 = some (.flt .f64 0) := by kernel_rfl
@[go_sem] theorem tsz140 : tsz Proofs.Tryd.prog 140 = 1 := by kernel_rfl
@[go_sem] theorem tagg140 : tagg Proofs.Tryd.prog 140 = some false := by kernel_rfl
@[go_sem] theorem tby140 : tby Proofs.Tryd.prog 140 = 8 := by kernel_rfl
@[go_sem] theorem tzero140 : tzero Proofs.Tryd.prog 140 = some (.nilfn) := by kernel_rfl
@[go_sem] theorem tsz141 : tsz Proofs.Tryd.prog 141 = 1 := by kernel_rfl
@[go_sem] theorem tagg141 : tagg Proofs.Tryd.prog 141 = some false := by kernel_rfl
@[go_sem] theorem tby141 : tby Proofs.Tryd.prog 141 = 8 := by kernel_rfl
@[go_sem] theorem tsz142 : tsz Proofs.Tryd.prog 142 = 1 := by kernel_rfl
@[go_sem] theorem tagg142 : tagg Proofs.Tryd.prog 142 = some false := by kernel_rfl
@[go_sem] theorem tby142 : tby Proofs.Tryd.prog 142 = 8 := by kernel_rfl
@[go_sem] theorem tzero142 : tzero Proofs.Tryd.prog 142 = some (.nilfn) := by kernel_rfl
@[go_sem] theorem tsz143 : tsz Proofs.Tryd.prog 143 = 1 := by kernel_rfl
@[go_sem] theorem tagg143 : tagg Proofs.Tryd.prog 143 = some false := by kernel_rfl
@[go_sem] theorem tby143 : tby Proofs.Tryd.prog 143 = 8 := by kernel_rfl
@[go_sem] theorem tzero143 : tzero Proofs.Tryd.prog 143 = some (.nilfn) := by kernel_rfl
@[go_sem] theorem tsz144 : tsz Proofs.Tryd.prog 144 = 1 := by kernel_rfl
@[go_sem] theorem tagg144 : tagg Proofs.Tryd.prog 144 = some false := by kernel_rfl
@[go_sem] theorem tby144 : tby Proofs.Tryd.prog 144 = 8 := by kernel_rfl
@[go_sem] theorem tzero144 : tzero Proofs.Tryd.prog 144 = some (.nilfn) := by kernel_rfl
@[go_sem] theorem tsz145 : tsz Proofs.Tryd.prog 145 = 2 := by kernel_rfl
@[go_sem] theorem tagg145 : tagg Proofs.Tryd.prog 145 = some true := by kernel_rfl
@[go_sem] theorem tby145 : tby Proofs.Tryd.prog 145 = 16 := by kernel_rfl
@[go_sem] theorem tzero145 : tzero Proofs.Tryd.prog 145 = some (.agg [.int .i64 0, .int .i64 0]) := by kernel_rfl
@[go_sem] theorem tsz146 : tsz Proofs.Tryd.prog 146 = 2 := by kernel_rfl
@[go_sem] theorem tagg146 : tagg Proofs.Tryd.prog 146 = some true := by kernel_rfl
@[go_sem] theorem tby146 : tby Proofs.Tryd.prog 146 = 16 := by kernel_rfl
@[go_sem] theorem tzero146 : tzero Proofs.Tryd.prog 146 = some (.agg [.int .i64 0, .int .i64 0]) := by kernel_rfl
@[go_sem] theorem tsz147 : tsz Proofs.Tryd.prog 147 = 1 := by kernel_rfl
@[go_sem] theorem tagg147 : tagg Proofs.Tryd.prog 147 = some false := by kernel_rfl
@[go_sem] theorem tby147 : tby Proofs.Tryd.prog 147 = 8 := by kernel_rfl
@[go_sem] theorem tzero147 : tzero Proofs.Tryd.prog 147 = some (.nilfn) := by kernel_rfl
@[go_sem] theorem tsz148 : tsz Proofs.Tryd.prog 148 = 1 := by kernel_rfl
@[go_sem] theorem tagg148 : tagg Proofs.Tryd.prog 148 = some false := by kernel_rfl
@[go_sem] theorem tby148 : tby Proofs.Tryd.prog 148 = 8 := by kernel_rfl
@[go_sem] theorem tzero148 : tzero Proofs.Tryd.prog 148 = some (.nilfn) := by kernel_rfl
@[go_sem] theorem tsz149 : tsz Proofs.Tryd.prog 149 = 1 := by kernel_rfl
@[go_sem] theorem tagg149 : tagg Proofs.Tryd.prog 149 = some false := by kernel_rfl
@[go_sem] theorem tby149 : tby Proofs.Tryd.prog 149 = 8 := by kernel_rfl
@[go_sem] theorem tzero149 : tzero Proofs.Tryd.prog 149 = some (.nilfn) := by kernel_rfl
@[go_sem] theorem tsz150 : tsz Proofs.Tryd.prog 150 = 1 := by kernel_rfl
@[go_sem] theorem tagg150 : tagg Proofs.Tryd.prog 150 = some false := by kernel_rfl
@[go_sem] theorem tby150 : tby Proofs.Tryd.prog 150 = 8 := by kernel_rfl
@[go_sem] theorem tzero150 : tzero Proofs.Tryd.prog 150 = some (.nilfn) := by kernel_rfl
@[go_sem] theorem tsz151 : tsz Proofs.Tryd.prog 151 = 3 := by kernel_rfl
@[go_sem] theorem tagg151 : tagg Proofs.Tryd.prog 151 = some true := by kernel_rfl
@[go_sem] theorem tby151 : tby Proofs.Tryd.prog 151 = 24 := by kernel_rfl
@[go_sem] theorem tzero151 : tzero Proofs.Tryd.prog 151 = some (.agg [.nilfn, .int .i64 0, .int .i64 0]) := by kernel_rfl
@[go_sem] theorem tsz152 : tsz Proofs.Tryd.prog 152 = 3 := by kernel_rfl
@[go_sem] theorem tagg152 : tagg Proofs.Tryd.prog 152 = some true := by kernel_rfl
@[go_sem] theorem tby152 : tby Proofs.Tryd.prog 152 = 24 := by kernel_rfl
@[go_sem] theorem tzero152 : tzero Proofs.Tryd.prog 152 = some (.agg [.nilfn, .int .i64 0, .int .i64 0]) := by kernel_rfl
@[go_sem] theorem tsz153 : tsz Proofs.Tryd.prog 153 = 12 := by kernel_rfl
@[go_sem] theorem tagg153 : tagg Proofs.Tryd.prog 153 = some true := by kernel_rfl
@[go_sem] theorem tby153 : tby Proofs.Tryd.prog 153 = 96 := by kernel_rfl
@[go_sem] theorem tzero153 : tzero Proofs.Tryd.prog 153 = some (.agg [.nilfn, .int .i64 0, .int .i64 0, .nilfn, .int .i64 0, .int .i64 0, .nilfn, .int .i64 0, .int .i64 0, .nilfn, .int .i64 0, .int .i64 0]) := by kernel_rfl
@[go_sem] theorem tsz155 : tsz Proofs.Tryd.prog 155 = 1 := by kernel_rfl
@[go_sem] theorem tagg155 : tagg Proofs.Tryd.prog 155 = some false := by kernel_rfl
@[go_sem] theorem tby155 : tby Proofs.Tryd.prog 155 = 8 := by kernel_rfl
@[go_sem] theorem tzero155 : tzero Proofs.Tryd.prog 155 = some (.nilfn) := by kernel_rfl
@[go_sem] theorem tsz156 : tsz Proofs.Tryd.prog 156 = 4 := by kernel_rfl
@[go_sem] theorem tagg156 : tagg Proofs.Tryd.prog 156 = some true := by kernel_rfl
@[go_sem] theorem tby156 : tby Proofs.Tryd.prog 156 = 32 := by kernel_rfl
@[go_sem] theorem tzero156 : tzero Proofs.Tryd.prog 156 = some (.agg [.int .i64 0, .int .i64 0, .int .i64 0, .int .i64 0]) := by kernel_rfl
@[go_sem] theorem tsz157 : tsz Proofs.Tryd.prog 157 = 4 := by kernel_rfl
@[go_sem] theorem tagg157 : tagg Proofs.Tryd.prog 157 = some true := by kernel_rfl
@[go_sem] theorem tby157 : tby Proofs.Tryd.prog 157 = 32 := by kernel_rfl
@[go_sem] theorem tzero157 : tzero Proofs.Tryd.prog 157 = some (.agg [.int .i64 0, .int .i64 0, .int .i64 0, .int .i64 0]) := by kernel_rfl
@[go_sem] theorem tsz158 : tsz Proofs.Tryd.prog 158 = 1 := by kernel_rfl
@[go_sem] theorem tagg158 : tagg Proofs.Tryd.prog 158 = some false := by kernel_rfl
@[go_sem] theorem tby158 : tby Proofs.Tryd.prog 158 = 8 := by kernel_rfl
@[go_sem] theorem tzero158 : tzero Proofs.Tryd.prog 158 = some (.nilfn) := by kernel_rfl
@[go_sem] theorem tsz159 : tsz Proofs.Tryd.prog 159 = 1 := by kernel_rfl
@[go_sem] theorem tagg159 : tagg Proofs.Tryd.prog 159 = some false := by kernel_rfl
@[go_sem] theorem tby159 : tby Proofs.Tryd.prog 159 = 8 := by kernel_rfl
@[go_sem] theorem tzero159 : tzero Proofs.Tryd.prog 159 = some (.nilfn) := by kernel_rfl
@[go_sem] theorem tsz160 : tsz Proofs.Tryd.prog 160 = 1 := by kernel_rfl
@[go_sem] theorem tagg160 : tagg Proofs.Tryd.prog 160 = some false := by kernel_rfl
@[go_sem] theorem tby160 : tby Proofs.Tryd.prog 160 = 8 := by kernel_rfl
@[go_sem] theorem tzero160 : tzero Proofs.Tryd.prog 160 = some (.nilfn) := by kernel_rfl
@[go_sem] theorem tsz161 : tsz Proofs.Tryd.prog 161 = 1 := by kernel_rfl
@[go_sem] theorem tagg161 : tagg Proofs.Tryd.prog 161 = some false := by kernel_rfl
@[go_sem] theorem tby161 : tby Proofs.Tryd.prog 161 = 8 := by kernel_rfl
@[go_sem] theorem tzero161 : tzero Proofs.Tryd.prog 161 = some (.nilfn) := by kernel_rfl
@[go_sem] theorem tsz162 : tsz Proofs.Tryd.prog 162 = 1 := by kernel_rfl
@[go_sem] theorem tagg162 : tagg Proofs.Tryd.prog 162 = some false := by kernel_rfl
@[go_sem] theorem tby162 : tby Proofs.Tryd.prog 162 = 8 := by kernel_rfl
@[go_sem] theorem tzero162 : tzero Proofs.Tryd.prog 162 = some (.nilfn) := by kernel_rfl
@[go_sem] theorem tsz163 : tsz Proofs.Tryd.prog 163 = 1 := by kernel_rfl
@[go_sem] theorem tagg163 : tagg Proofs.Tryd.prog 163 = some false := by kernel_rfl
@[go_sem] theorem tby163 : tby Proofs.Tryd.prog 163 = 8 := by kernel_rfl
@[go_sem] theorem tzero163 : tzero Proofs.Tryd.prog 163 = some (.nilfn) := by kernel_rfl
@[go_sem] theorem tsz164 : tsz Proofs.Tryd.prog 164 = 4 := by kernel_rfl
@[go_sem] theorem tagg164 : tagg Proofs.Tryd.prog 164 = some true := by kernel_rfl
@[go_sem] theorem tby164 : tby Proofs.Tryd.prog 164 = 40 := by kernel_rfl
@[go_sem] theorem tzero164 : tzero Proofs.Tryd.prog 164 = some (.agg [.nilp, .nilp, .nilp, .str []]) := by kernel_rfl
@[go_sem] theorem tsz165 : tsz Proofs.Tryd.prog 165 = 4 := by kernel_rfl
@[go_sem] theorem tagg165 : tagg Proofs.Tryd.prog 165 = some true := by kernel_rfl
@[go_sem] theorem tby165 : tby Proofs.Tryd.prog 165 = 40 := by kernel_rfl
@[go_sem] theorem tzero165 : tzero Proofs.Tryd.prog 165 = some (.agg [.nilp, .nilp, .nilp, .str []]) := by kernel_rfl
@[go_sem] theorem tsz166 : tsz Proofs.Tryd.prog 166 = 0 := by kernel_rfl
@[go_sem] theorem tagg166 : tagg Proofs.Tryd.prog 166 = some true := by kernel_rfl
@[go_sem] theorem tby166 : tby Proofs.Tryd.prog 166 = 0 := by kernel_rfl
@[go_sem] theorem tzero166 : tzero Proofs.Tryd.prog 166 = some (.agg []) := by kernel_rfl
@[go_sem] theorem tsz167 : tsz Proofs.Tryd.prog 167 = 0 := by kernel_rfl
@[go_sem] theorem tagg167 : tagg Proofs.Tryd.prog 167 = some true := by kernel_rfl
@[go_sem] theorem tby167 : tby Proofs.Tryd.prog 167 = 0 := by kernel_rfl
@[go_sem] theorem tzero167 : tzero Proofs.Tryd.prog 167 = some (.agg []) := by kernel_rfl
@[go_sem] theorem tsz168 : tsz Proofs.Tryd.prog 168 = 0 := by kernel_rfl
@[go_sem] theorem tagg168 : tagg Proofs.Tryd.prog 168 = some true := by kernel_rfl
@[go_sem] theorem tby168 : tby Proofs.Tryd.prog 168 = 0 := by kernel_rfl
@[go_sem] theorem tzero168 : tzero Proofs.Tryd.prog 168 = some (.agg []) := by kernel_rfl
@[go_sem] theorem tsz169 : tsz Proofs.Tryd.prog 169 = 1 := by kernel_rfl
@[go_sem] theorem tagg169 : tagg Proofs.Tryd.prog 169 = some false := by kernel_rfl
@[go_sem] theorem tby169 : tby Proofs.Tryd.prog 169 = 4 := by kernel_rfl
@[go_sem] theorem tzero169 : tzero Proofs.Tryd.prog 169 = some (.int .u32 0) := by kernel_rfl
@[go_sem] theorem tsz170 : tsz Proofs.Tryd.prog 170 = 1 := by kernel_rfl
@[go_sem] theorem tagg170 : tagg Proofs.Tryd.prog 170 = some false := by kernel_rfl
@[go_sem] theorem tby170 : tby Proofs.Tryd.prog 170 = 1 := by kernel_rfl
@[go_sem] theorem tzero170 : tzero Proofs.Tryd.prog 170 = some (.int .u8 0) := by kernel_rfl
@[go_sem] theorem tsz171 : tsz Proofs.Tryd.prog 171 = 1 := by kernel_rfl
@[go_sem] theorem tagg171 : tagg Proofs.Tryd.prog 171 = some false := by kernel_rfl
@[go_sem] theorem tby171 : tby Proofs.Tryd.prog 171 = 1 := by kernel_rfl
@[go_sem] theorem tzero171 : tzero Proofs.Tryd.prog 171 = some (.int .u8 0) := by kernel_rfl
@[go_sem] theorem tsz172 : tsz Proofs.Tryd.prog 172 = 1 := by kernel_rfl
@[go_sem] theorem tagg172 : tagg Proofs.Tryd.prog 172 = some false := by kernel_rfl
@[go_sem] theorem tby172 : tby Proofs.Tryd.prog 172 = 8 := by kernel_rfl
@[go_sem] theorem tzero172 : tzero Proofs.Tryd.prog 172 = some (.nilfn) := by kernel_rfl
@[go_sem] theorem tsz173 : tsz Proofs.Tryd.prog 173 = 1 := by kernel_rfl
@[go_sem] theorem tagg173 : tagg Proofs.Tryd.prog 173 = some false := by kernel_rfl
@[go_sem] theorem tby173 : tby Proofs.Tryd.prog 173 = 8 := by kernel_rfl
@[go_sem] theorem tzero173 : tzero Proofs.Tryd.prog 173 = some (.nilp) := by kernel_rfl
@[go_sem] theorem tsz174 : tsz Proofs.Tryd.prog 174 = 1 := by kernel_rfl
@[go_sem] theorem tagg174 : tagg Proofs.Tryd.prog 174 = some false := by kernel_rfl
@[go_sem] theorem tby174 : tby Proofs.Tryd.prog 174 = 4 := by kernel_rfl
@[go_sem] theorem tzero174 : tzero Proofs.Tryd.prog 174 = some (.int .i32 0) := by kernel_rfl
@[go_sem] theorem tsz175 : tsz Proofs.Tryd.prog 175 = 1 := by kernel_rfl
@[go_sem] theorem tagg175 : tagg Proofs.Tryd.prog 175 = some false := by kernel_rfl
@[go_sem] theorem tby175 : tby Proofs.Tryd.prog 175 = 4 := by kernel_rfl
@[go_sem] theorem tzero175 : tzero Proofs.Tryd.prog 175 = some (.int .i32 0) := by kernel_rfl
@[go_sem] theorem tsz176 : tsz Proofs.Tryd.prog 176 = 11 := by kernel_rfl
@[go_sem] theorem tagg176 : tagg Proofs.Tryd.prog 176 = some true := by kernel_rfl
@[go_sem] theorem tby176 : tby Proofs.Tryd.prog 176 = 48 := by kernel_rfl
@[go_sem] theorem tzero176 : tzero Proofs.Tryd.prog 176 = some (.agg [.int .u64 0, .int .u64 0, .int .u32 0, .int .u8 0, .int .u8 0, .int .u8 0, .int .u8 0, .nilfn, .nilp, .int .i32 0, .int .i32 0]) := by kernel_rfl
@[go_sem] theorem tsz177 : tsz Proofs.Tryd.prog 177 = 11 := by kernel_rfl
@[go_sem] theorem tagg177 : tagg Proofs.Tryd.prog 177 = some true := by kernel_rfl
@[go_sem] theorem tby177 : tby Proofs.Tryd.prog 177 = 48 := by kernel_rfl
@[go_sem] theorem tzero177 : tzero Proofs.Tryd.prog 177 = some (.agg [.int .u64 0, .int .u64 0, .int .u32 0, .int .u8 0, .int .u8 0, .int .u8 0, .int .u8 0, .nilfn, .nilp, .int .i32 0, .int .i32 0]) := by kernel_rfl
@[go_sem] theorem tsz178 : tsz Proofs.Tryd.prog 178 = 1 := by kernel_rfl
@[go_sem] theorem tagg178 : tagg Proofs.Tryd.prog 178 = some false := by kernel_rfl
@[go_sem] theorem tby178 : tby Proofs.Tryd.prog 178 = 8 := by kernel_rfl
@[go_sem] theorem tzero178 : tzero Proofs.Tryd.prog 178 = some (.nilp) := by kernel_rfl
attribute [go_sem] Proofs.Tryd.underlying0 Proofs.Tryd.underlying1 Proofs.Tryd.underlying2 Proofs.Tryd.underlying3 Proofs.Tryd.underlying4 Proofs.Tryd.underlying5 Proofs.Tryd.underlying6 Proofs.Tryd.underlying7 Proofs.Tryd.underlying8 Proofs.Tryd.underlying9 Proofs.Tryd.underlying10 Proofs.Tryd.underlying11 Proofs.Tryd.underlying12 Proofs.Tryd.underlying13 Proofs.Tryd.underlying14 Proofs.Tryd.underlying15 Proofs.Tryd.underlying16 Proofs.Tryd.underlying17 Proofs.Tryd.underlying18 Proofs.Tryd.underlying19 Proofs.Tryd.underlying20 Proofs.Tryd.underlying21 Proofs.Tryd.underlying22 Proofs.Tryd.underlying23 Proofs.Tryd.underlying24 Proofs.Tryd.underlying25 Proofs.Tryd.underlying26 Proofs.Tryd.underlying27 Proofs.Tryd.underlying28 Proofs.Tryd.underlying29 Proofs.Tryd.underlying30 Proofs.Tryd.underlying31 Proofs.Tryd.underlying32 Proofs.Tryd.underlying33 Proofs.Tryd.underlying34 Proofs.Tryd.underlying35 Proofs.Tryd.underlying36 Proofs.Tryd.underlying37 Proofs.Tryd.underlying38 Proofs.Tryd.underlying39 Proofs.Tryd.underlying40 Proofs.Tryd.underlying41 Proofs.Tryd.underlying42 Proofs.Tryd.underlying43 Proofs.Tryd.underlying44 Proofs.Tryd.underlying45 Proofs.Tryd.underlying46 Proofs.Tryd.underlying47 Proofs.Tryd.underlying48 Proofs.Tryd.underlying49 Proofs.Tryd.underlying50 Proofs.Tryd.underlying51 Proofs.Tryd.underlying52 Proofs.Tryd.underlying53 Proofs.Tryd.underlying54 Proofs.Tryd.underlying55 Proofs.Tryd.underlying56 Proofs.Tryd.underlying57 Proofs.Tryd.underlying58 Proofs.Tryd.underlying59 Proofs.Tryd.underlying60 Proofs.Tryd.underlying61 Proofs.Tryd.underlying62 Proofs.Tryd.underlying63 Proofs.Tryd.underlying64 Proofs.Tryd.underlying65 Proofs.Tryd.underlying66 Proofs.Tryd.underlying67 Proofs.Tryd.underlying68 Proofs.Tryd.underlying69 Proofs.Tryd.underlying70 Proofs.Tryd.underlying71 Proofs.Tryd.underlying72 Proofs.Tryd.underlying73 Proofs.Tryd.underlying74 Proofs.Tryd.underlying75 Proofs.Tryd.underlying76 Proofs.Tryd.underlying77 Proofs.Tryd.underlying78 Proofs.Tryd.underlying79 Proofs.Tryd.underlying80 Proofs.Tryd.underlying81 Proofs.Tryd.underlying82 Proofs.Tryd.underlying83 Proofs.Tryd.underlying84 Proofs.Tryd.underlying85 Proofs.Tryd.underlying86 Proofs.Tryd.underlying87 Proofs.Tryd.underlying88 Proofs.Tryd.underlying89 Proofs.Tryd.underlying90 Proofs.Tryd.underlying91 Proofs.Tryd.underlying92 Proofs.Tryd.underlying93 Proofs.Tryd.underlying94 Proofs.Tryd.underlying95 Proofs.Tryd.underlying96 Proofs.Tryd.underlying97 Proofs.Tryd.underlying98 Proofs.Tryd.underlying99 Proofs.Tryd.underlying100 Proofs.Tryd.underlying101 Proofs.Tryd.underlying102 Proofs.Tryd.underlying103 Proofs.Tryd.underlying104 Proofs.Tryd.underlying105 Proofs.Tryd.underlying106 Proofs.Tryd.underlying107 Proofs.Tryd.underlying108 Proofs.Tryd.underlying109 Proofs.Tryd.underlying110 Proofs.Tryd.underlying111 Proofs.Tryd.underlying112 Proofs.Tryd.underlying113 Proofs.Tryd.underlying114 Proofs.Tryd.underlying115 Proofs.Tryd.underlying116 Proofs.Tryd.underlying117 Proofs.Tryd.underlying118 Proofs.Tryd.underlying119 Proofs.Tryd.underlying120 Proofs.Tryd.underlying121 Proofs.Tryd.underlying122 Proofs.Tryd.underlying123 Proofs.Tryd.underlying124 Proofs.Tryd.underlying125 Proofs.Tryd.underlying126 Proofs.Tryd.underlying127 Proofs.Tryd.underlying128 Proofs.Tryd.underlying129 Proofs.Tryd.underlying130 Proofs.Tryd.underlying131 Proofs.Tryd.underlying132 Proofs.Tryd.underlying133 Proofs.Tryd.underlying134 Proofs.Tryd.underlying135 Proofs.Tryd.underlying136 Proofs.Tryd.underlying137 Proofs.Tryd.underlying138 Proofs.Tryd.underlying139 Proofs.Tryd.underlying140 Proofs.Tryd.underlying141 Proofs.Tryd.underlying142 Proofs.Tryd.underlying143 Proofs.Tryd.underlying144 Proofs.Tryd.underlying145 Proofs.Tryd.underlying146 Proofs.Tryd.underlying147 Proofs.Tryd.underlying148 Proofs.Tryd.underlying149 Proofs.Tryd.underlying150 Proofs.Tryd.underlying151 Proofs.Tryd.underlying152 Proofs.Tryd.underlying153 Proofs.Tryd.underlying154 Proofs.Tryd.underlying155 Proofs.Tryd.underlying156 Proofs.Tryd.underlying157 Proofs.Tryd.underlying158 Proofs.Tryd.underlying159 Proofs.Tryd.underlying160 Proofs.Tryd.underlying161 Proofs.Tryd.underlying162 Proofs.Tryd.underlying163 Proofs.Tryd.underlying164 Proofs.Tryd.underlying165 Proofs.Tryd.underlying166 Proofs.Tryd.underlying167 Proofs.Tryd.underlying168 Proofs.Tryd.underlying169 Proofs.Tryd.underlying170 Proofs.Tryd.underlying171 Proofs.Tryd.underlying172 Proofs.Tryd.underlying173 Proofs.Tryd.underlying174 Proofs.Tryd.underlying175 Proofs.Tryd.underlying176 Proofs.Tryd.underlying177 Proofs.Tryd.underlying178
end Go.Fly.Tryd
