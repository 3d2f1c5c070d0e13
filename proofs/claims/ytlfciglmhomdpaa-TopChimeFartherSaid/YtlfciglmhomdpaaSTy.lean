/- MADE BY PROGRAM (gentypes.py): closed facts of the program's types. -/
import Derived.Test.YtlfciglmhomdpaaAD
import Derived.Test.YtlfciglmhomdpaaProg
import Derived.KernelRfl
set_option linter.unusedSimpArgs false
set_option linter.unusedVariables false
namespace Go.Fly.Try
open Go
@[go_sem] theorem tsz1 : tsz Proofs.Try.prog 1 = 1 := by kernel_rfl
@[go_sem] theorem tagg1 : tagg Proofs.Try.prog 1 = some false := by kernel_rfl
@[go_sem] theorem tby1 : tby Proofs.Try.prog 1 = 8 := by kernel_rfl
@[go_sem] theorem tzero1 : tzero Proofs.Try.prog 1 = some (.nilfn) := by kernel_rfl
@[go_sem] theorem tsz2 : tsz Proofs.Try.prog 2 = 1 := by kernel_rfl
@[go_sem] theorem tagg2 : tagg Proofs.Try.prog 2 = some false := by kernel_rfl
@[go_sem] theorem tby2 : tby Proofs.Try.prog 2 = 8 := by kernel_rfl
@[go_sem] theorem tzero2 : tzero Proofs.Try.prog 2 = some (.int .i64 0) := by kernel_rfl
@[go_sem] theorem tsz3 : tsz Proofs.Try.prog 3 = 1 := by kernel_rfl
@[go_sem] theorem tagg3 : tagg Proofs.Try.prog 3 = some false := by kernel_rfl
@[go_sem] theorem tby3 : tby Proofs.Try.prog 3 = 8 := by kernel_rfl
@[go_sem] theorem tzero3 : tzero Proofs.Try.prog 3 = some (.int .i64 0) := by kernel_rfl
@[go_sem] theorem tsz4 : tsz Proofs.Try.prog 4 = 1 := by kernel_rfl
@[go_sem] theorem tagg4 : tagg Proofs.Try.prog 4 = some false := by kernel_rfl
@[go_sem] theorem tby4 : tby Proofs.Try.prog 4 = 1 := by kernel_rfl
@[go_sem] theorem tzero4 : tzero Proofs.Try.prog 4 = some (.bool false) := by kernel_rfl
@[go_sem] theorem tsz5 : tsz Proofs.Try.prog 5 = 1 := by kernel_rfl
@[go_sem] theorem tagg5 : tagg Proofs.Try.prog 5 = some false := by kernel_rfl
@[go_sem] theorem tby5 : tby Proofs.Try.prog 5 = 1 := by kernel_rfl
@[go_sem] theorem tzero5 : tzero Proofs.Try.prog 5 = some (.int .u8 0) := by kernel_rfl
@[go_sem] theorem tsz6 : tsz Proofs.Try.prog 6 = 1 := by kernel_rfl
@[go_sem] theorem tagg6 : tagg Proofs.Try.prog 6 = some false := by kernel_rfl
@[go_sem] theorem tby6 : tby Proofs.Try.prog 6 = 1 := by kernel_rfl
@[go_sem] theorem tzero6 : tzero Proofs.Try.prog 6 = some (.int .u8 0) := by kernel_rfl
@[go_sem] theorem tsz7 : tsz Proofs.Try.prog 7 = 4 := by kernel_rfl
@[go_sem] theorem tagg7 : tagg Proofs.Try.prog 7 = some true := by kernel_rfl
@[go_sem] theorem tby7 : tby Proofs.Try.prog 7 = 24 := by kernel_rfl
@[go_sem] theorem tzero7 : tzero Proofs.Try.prog 7 = some (.agg [.int .i64 0, .int .i64 0, .bool false, .int .u8 0]) := by kernel_rfl
@[go_sem] theorem tsz8 : tsz Proofs.Try.prog 8 = 4 := by kernel_rfl
@[go_sem] theorem tagg8 : tagg Proofs.Try.prog 8 = some true := by kernel_rfl
@[go_sem] theorem tby8 : tby Proofs.Try.prog 8 = 24 := by kernel_rfl
@[go_sem] theorem tzero8 : tzero Proofs.Try.prog 8 = some (.agg [.int .i64 0, .int .i64 0, .bool false, .int .u8 0]) := by kernel_rfl
@[go_sem] theorem tsz9 : tsz Proofs.Try.prog 9 = 1 := by kernel_rfl
@[go_sem] theorem tagg9 : tagg Proofs.Try.prog 9 = some false := by kernel_rfl
@[go_sem] theorem tby9 : tby Proofs.Try.prog 9 = 16 := by kernel_rfl
@[go_sem] theorem tzero9 : tzero Proofs.Try.prog 9 = some (.str []) := by kernel_rfl
@[go_sem] theorem tsz10 : tsz Proofs.Try.prog 10 = 1 := by kernel_rfl
@[go_sem] theorem tagg10 : tagg Proofs.Try.prog 10 = some false := by kernel_rfl
@[go_sem] theorem tby10 : tby Proofs.Try.prog 10 = 16 := by kernel_rfl
@[go_sem] theorem tzero10 : tzero Proofs.Try.prog 10 = some (.str []) := by kernel_rfl
@[go_sem] theorem tsz11 : tsz Proofs.Try.prog 11 = 1 := by kernel_rfl
@[go_sem] theorem tagg11 : tagg Proofs.Try.prog 11 = some false := by kernel_rfl
@[go_sem] theorem tby11 : tby Proofs.Try.prog 11 = 16 := by kernel_rfl
@[go_sem] theorem tzero11 : tzero Proofs.Try.prog 11 = some (.str []) := by kernel_rfl
@[go_sem] theorem tsz12 : tsz Proofs.Try.prog 12 = 1 := by kernel_rfl
@[go_sem] theorem tagg12 : tagg Proofs.Try.prog 12 = some false := by kernel_rfl
@[go_sem] theorem tby12 : tby Proofs.Try.prog 12 = 8 := by kernel_rfl
@[go_sem] theorem tzero12 : tzero Proofs.Try.prog 12 = some (.int .u64 0) := by kernel_rfl
@[go_sem] theorem tsz13 : tsz Proofs.Try.prog 13 = 2 := by kernel_rfl
@[go_sem] theorem tagg13 : tagg Proofs.Try.prog 13 = some true := by kernel_rfl
@[go_sem] theorem tby13 : tby Proofs.Try.prog 13 = 24 := by kernel_rfl
@[go_sem] theorem tzero13 : tzero Proofs.Try.prog 13 = some (.agg [.str [], .int .u64 0]) := by kernel_rfl
@[go_sem] theorem tsz14 : tsz Proofs.Try.prog 14 = 2 := by kernel_rfl
@[go_sem] theorem tagg14 : tagg Proofs.Try.prog 14 = some true := by kernel_rfl
@[go_sem] theorem tby14 : tby Proofs.Try.prog 14 = 24 := by kernel_rfl
@[go_sem] theorem tzero14 : tzero Proofs.Try.prog 14 = some (.agg [.str [], .int .u64 0]) := by kernel_rfl
@[go_sem] theorem tsz15 : tsz Proofs.Try.prog 15 = 1 := by kernel_rfl
@[go_sem] theorem tagg15 : tagg Proofs.Try.prog 15 = some false := by kernel_rfl
@[go_sem] theorem tby15 : tby Proofs.Try.prog 15 = 8 := by kernel_rfl
@[go_sem] theorem tzero15 : tzero Proofs.Try.prog 15 = some (.nilp) := by kernel_rfl
@[go_sem] theorem tsz16 : tsz Proofs.Try.prog 16 = 1 := by kernel_rfl
@[go_sem] theorem tagg16 : tagg Proofs.Try.prog 16 = some false := by kernel_rfl
@[go_sem] theorem tby16 : tby Proofs.Try.prog 16 = 8 := by kernel_rfl
@[go_sem] theorem tzero16 : tzero Proofs.Try.prog 16 = some (.nilp) := by kernel_rfl
@[go_sem] theorem tsz17 : tsz Proofs.Try.prog 17 = 1 := by kernel_rfl
@[go_sem] theorem tagg17 : tagg Proofs.Try.prog 17 = some false := by kernel_rfl
@[go_sem] theorem tby17 : tby Proofs.Try.prog 17 = 8 := by kernel_rfl
@[go_sem] theorem tzero17 : tzero Proofs.Try.prog 17 = some (.nilp) := by kernel_rfl
@[go_sem] theorem tsz18 : tsz Proofs.Try.prog 18 = 1 := by kernel_rfl
@[go_sem] theorem tagg18 : tagg Proofs.Try.prog 18 = some true := by kernel_rfl
@[go_sem] theorem tby18 : tby Proofs.Try.prog 18 = 8 := by kernel_rfl
@[go_sem] theorem tzero18 : tzero Proofs.Try.prog 18 = some (.agg [.nilp]) := by kernel_rfl
@[go_sem] theorem tsz19 : tsz Proofs.Try.prog 19 = 1 := by kernel_rfl
@[go_sem] theorem tagg19 : tagg Proofs.Try.prog 19 = some true := by kernel_rfl
@[go_sem] theorem tby19 : tby Proofs.Try.prog 19 = 8 := by kernel_rfl
@[go_sem] theorem tzero19 : tzero Proofs.Try.prog 19 = some (.agg [.nilp]) := by kernel_rfl
@[go_sem] theorem tsz20 : tsz Proofs.Try.prog 20 = 1 := by kernel_rfl
@[go_sem] theorem tagg20 : tagg Proofs.Try.prog 20 = some false := by kernel_rfl
@[go_sem] theorem tby20 : tby Proofs.Try.prog 20 = 16 := by kernel_rfl
@[go_sem] theorem tsz21 : tsz Proofs.Try.prog 21 = 1 := by kernel_rfl
@[go_sem] theorem tagg21 : tagg Proofs.Try.prog 21 = some false := by kernel_rfl
@[go_sem] theorem tby21 : tby Proofs.Try.prog 21 = 4 := by kernel_rfl
@[go_sem] theorem tzero21 : tzero Proofs.Try.prog 21 = some (.int .i32 0) := by kernel_rfl
@[go_sem] theorem tsz22 : tsz Proofs.Try.prog 22 = 1 := by kernel_rfl
@[go_sem] theorem tagg22 : tagg Proofs.Try.prog 22 = some false := by kernel_rfl
@[go_sem] theorem tby22 : tby Proofs.Try.prog 22 = 24 := by kernel_rfl
@[go_sem] theorem tzero22 : tzero Proofs.Try.prog 22 = some (.nils) := by kernel_rfl
@[go_sem] theorem tsz23 : tsz Proofs.Try.prog 23 = 8 := by kernel_rfl
@[go_sem] theorem tagg23 : tagg Proofs.Try.prog 23 = some true := by kernel_rfl
@[go_sem] theorem tby23 : tby Proofs.Try.prog 23 = 64 := by kernel_rfl
@[go_sem] theorem tzero23 : tzero Proofs.Try.prog 23 = some (.agg [.int .i64 0, .int .i64 0, .int .i64 0, .int .i64 0, .int .i64 0, .int .i64 0, .int .i64 0, .int .i64 0]) := by kernel_rfl
@[go_sem] theorem tsz24 : tsz Proofs.Try.prog 24 = 1 := by kernel_rfl
@[go_sem] theorem tagg24 : tagg Proofs.Try.prog 24 = some false := by kernel_rfl
@[go_sem] theorem tby24 : tby Proofs.Try.prog 24 = 24 := by kernel_rfl
@[go_sem] theorem tzero24 : tzero Proofs.Try.prog 24 = some (.nils) := by kernel_rfl
@[go_sem] theorem tsz25 : tsz Proofs.Try.prog 25 = 13 := by kernel_rfl
@[go_sem] theorem tagg25 : tagg Proofs.Try.prog 25 = some true := by kernel_rfl
@[go_sem] theorem tby25 : tby Proofs.Try.prog 25 = 160 := by kernel_rfl
@[go_sem] theorem tzero25 : tzero Proofs.Try.prog 25 = some (.agg [.str [], .nils, .int .i64 0, .int .i64 0, .int .i64 0, .int .i64 0, .int .i64 0, .int .i64 0, .int .i64 0, .int .i64 0, .int .i64 0, .nils, .nils]) := by kernel_rfl
@[go_sem] theorem tsz26 : tsz Proofs.Try.prog 26 = 13 := by kernel_rfl
@[go_sem] theorem tagg26 : tagg Proofs.Try.prog 26 = some true := by kernel_rfl
@[go_sem] theorem tby26 : tby Proofs.Try.prog 26 = 160 := by kernel_rfl
@[go_sem] theorem tzero26 : tzero Proofs.Try.prog 26 = some (.agg [.str [], .nils, .int .i64 0, .int .i64 0, .int .i64 0, .int .i64 0, .int .i64 0, .int .i64 0, .int .i64 0, .int .i64 0, .int .i64 0, .nils, .nils]) := by kernel_rfl
@[go_sem] theorem tsz27 : tsz Proofs.Try.prog 27 = 1 := by kernel_rfl
@[go_sem] theorem tagg27 : tagg Proofs.Try.prog 27 = some false := by kernel_rfl
@[go_sem] theorem tby27 : tby Proofs.Try.prog 27 = 24 := by kernel_rfl
@[go_sem] theorem tzero27 : tzero Proofs.Try.prog 27 = some (.nils) := by kernel_rfl
@[go_sem] theorem tsz28 : tsz Proofs.Try.prog 28 = 3 := by kernel_rfl
@[go_sem] theorem tagg28 : tagg Proofs.Try.prog 28 = some true := by kernel_rfl
@[go_sem] theorem tby28 : tby Proofs.Try.prog 28 = 24 := by kernel_rfl
@[go_sem] theorem tzero28 : tzero Proofs.Try.prog 28 = some (.agg [.int .i64 0, .int .i64 0, .int .i64 0]) := by kernel_rfl
@[go_sem] theorem tsz29 : tsz Proofs.Try.prog 29 = 3 := by kernel_rfl
@[go_sem] theorem tagg29 : tagg Proofs.Try.prog 29 = some true := by kernel_rfl
@[go_sem] theorem tby29 : tby Proofs.Try.prog 29 = 24 := by kernel_rfl
@[go_sem] theorem tzero29 : tzero Proofs.Try.prog 29 = some (.agg [.int .i64 0, .int .i64 0, .int .i64 0]) := by kernel_rfl
@[go_sem] theorem tsz30 : tsz Proofs.Try.prog 30 = 2 := by kernel_rfl
@[go_sem] theorem tagg30 : tagg Proofs.Try.prog 30 = some true := by kernel_rfl
@[go_sem] theorem tby30 : tby Proofs.Try.prog 30 = 16 := by kernel_rfl
@[go_sem] theorem tzero30 : tzero Proofs.Try.prog 30 = some (.agg [.int .i64 0, .int .i64 0]) := by kernel_rfl
@[go_sem] theorem tsz31 : tsz Proofs.Try.prog 31 = 2 := by kernel_rfl
@[go_sem] theorem tagg31 : tagg Proofs.Try.prog 31 = some true := by kernel_rfl
@[go_sem] theorem tby31 : tby Proofs.Try.prog 31 = 16 := by kernel_rfl
@[go_sem] theorem tzero31 : tzero Proofs.Try.prog 31 = some (.agg [.int .i64 0, .int .i64 0]) := by kernel_rfl
@[go_sem] theorem tsz32 : tsz Proofs.Try.prog 32 = 6 := by kernel_rfl
@[go_sem] theorem tagg32 : tagg Proofs.Try.prog 32 = some true := by kernel_rfl
@[go_sem] theorem tby32 : tby Proofs.Try.prog 32 = 48 := by kernel_rfl
@[go_sem] theorem tzero32 : tzero Proofs.Try.prog 32 = some (.agg [.int .i64 0, .int .i64 0, .int .i64 0, .int .i64 0, .int .i64 0, .int .i64 0]) := by kernel_rfl
@[go_sem] theorem tsz33 : tsz Proofs.Try.prog 33 = 6 := by kernel_rfl
@[go_sem] theorem tagg33 : tagg Proofs.Try.prog 33 = some true := by kernel_rfl
@[go_sem] theorem tby33 : tby Proofs.Try.prog 33 = 48 := by kernel_rfl
@[go_sem] theorem tzero33 : tzero Proofs.Try.prog 33 = some (.agg [.int .i64 0, .int .i64 0, .int .i64 0, .int .i64 0, .int .i64 0, .int .i64 0]) := by kernel_rfl
@[go_sem] theorem tsz34 : tsz Proofs.Try.prog 34 = 9 := by kernel_rfl
@[go_sem] theorem tagg34 : tagg Proofs.Try.prog 34 = some true := by kernel_rfl
@[go_sem] theorem tby34 : tby Proofs.Try.prog 34 = 72 := by kernel_rfl
@[go_sem] theorem tzero34 : tzero Proofs.Try.prog 34 = some (.agg [.int .i64 0, .int .i64 0, .int .i64 0, .int .i64 0, .int .i64 0, .int .i64 0, .int .i64 0, .int .i64 0, .int .i64 0]) := by kernel_rfl
@[go_sem] theorem tsz35 : tsz Proofs.Try.prog 35 = 9 := by kernel_rfl
@[go_sem] theorem tagg35 : tagg Proofs.Try.prog 35 = some true := by kernel_rfl
@[go_sem] theorem tby35 : tby Proofs.Try.prog 35 = 72 := by kernel_rfl
@[go_sem] theorem tzero35 : tzero Proofs.Try.prog 35 = some (.agg [.int .i64 0, .int .i64 0, .int .i64 0, .int .i64 0, .int .i64 0, .int .i64 0, .int .i64 0, .int .i64 0, .int .i64 0]) := by kernel_rfl
@[go_sem] theorem tsz36 : tsz Proofs.Try.prog 36 = 1 := by kernel_rfl
@[go_sem] theorem tagg36 : tagg Proofs.Try.prog 36 = some false := by kernel_rfl
@[go_sem] theorem tby36 : tby Proofs.Try.prog 36 = 8 := by kernel_rfl
@[go_sem] theorem tzero36 : tzero Proofs.Try.prog 36 = some (.nilfn) := by kernel_rfl
@[go_sem] theorem tsz37 : tsz Proofs.Try.prog 37 = 1 := by kernel_rfl
@[go_sem] theorem tagg37 : tagg Proofs.Try.prog 37 = some false := by kernel_rfl
@[go_sem] theorem tby37 : tby Proofs.Try.prog 37 = 8 := by kernel_rfl
@[go_sem] theorem tzero37 : tzero Proofs.Try.prog 37 = some (.nilfn) := by kernel_rfl
@[go_sem] theorem tsz38 : tsz Proofs.Try.prog 38 = 1 := by kernel_rfl
@[go_sem] theorem tagg38 : tagg Proofs.Try.prog 38 = some false := by kernel_rfl
@[go_sem] theorem tby38 : tby Proofs.Try.prog 38 = 24 := by kernel_rfl
@[go_sem] theorem tzero38 : tzero Proofs.Try.prog 38 = some (.nils) := by kernel_rfl
@[go_sem] theorem tsz40 : tsz Proofs.Try.prog 40 = 1 := by kernel_rfl
@[go_sem] theorem tagg40 : tagg Proofs.Try.prog 40 = some false := by kernel_rfl
@[go_sem] theorem tby40 : tby Proofs.Try.prog 40 = 8 := by kernel_rfl
@[go_sem] theorem tzero40 : tzero Proofs.Try.prog 40 = some (.nilfn) := by kernel_rfl
@[go_sem] theorem tsz41 : tsz Proofs.Try.prog 41 = 1 := by kernel_rfl
@[go_sem] theorem tagg41 : tagg Proofs.Try.prog 41 = some false := by kernel_rfl
@[go_sem] theorem tby41 : tby Proofs.Try.prog 41 = 8 := by kernel_rfl
@[go_sem] theorem tzero41 : tzero Proofs.Try.prog 41 = some (.nilfn) := by kernel_rfl
@[go_sem] theorem tsz42 : tsz Proofs.Try.prog 42 = 1 := by kernel_rfl
@[go_sem] theorem tagg42 : tagg Proofs.Try.prog 42 = some false := by kernel_rfl
@[go_sem] theorem tby42 : tby Proofs.Try.prog 42 = 8 := by kernel_rfl
@[go_sem] theorem tzero42 : tzero Proofs.Try.prog 42 = some (.int .i64 0) := by kernel_rfl
@[go_sem] theorem tsz44 : tsz Proofs.Try.prog 44 = 1 := by kernel_rfl
@[go_sem] theorem tagg44 : tagg Proofs.Try.prog 44 = some false := by kernel_rfl
@[go_sem] theorem tby44 : tby Proofs.Try.prog 44 = 8 := by kernel_rfl
@[go_sem] theorem tzero44 : tzero Proofs.Try.prog 44 = some (.nilfn) := by kernel_rfl
@[go_sem] theorem tsz45 : tsz Proofs.Try.prog 45 = 1 := by kernel_rfl
@[go_sem] theorem tagg45 : tagg Proofs.Try.prog 45 = some false := by kernel_rfl
@[go_sem] theorem tby45 : tby Proofs.Try.prog 45 = 24 := by kernel_rfl
@[go_sem] theorem tzero45 : tzero Proofs.Try.prog 45 = some (.nils) := by kernel_rfl
@[go_sem] theorem tsz46 : tsz Proofs.Try.prog 46 = 1 := by kernel_rfl
@[go_sem] theorem tagg46 : tagg Proofs.Try.prog 46 = some false := by kernel_rfl
@[go_sem] theorem tby46 : tby Proofs.Try.prog 46 = 8 := by kernel_rfl
@[go_sem] theorem tzero46 : tzero Proofs.Try.prog 46 = some (.nilfn) := by kernel_rfl
@[go_sem] theorem tsz47 : tsz Proofs.Try.prog 47 = 6 := by kernel_rfl
@[go_sem] theorem tagg47 : tagg Proofs.Try.prog 47 = some true := by kernel_rfl
@[go_sem] theorem tby47 : tby Proofs.Try.prog 47 = 48 := by kernel_rfl
@[go_sem] theorem tzero47 : tzero Proofs.Try.prog 47 = some (.agg [.int .i64 0, .int .i64 0, .int .i64 0, .int .i64 0, .int .i64 0, .int .i64 0]) := by kernel_rfl
@[go_sem] theorem tsz48 : tsz Proofs.Try.prog 48 = 6 := by kernel_rfl
@[go_sem] theorem tagg48 : tagg Proofs.Try.prog 48 = some true := by kernel_rfl
@[go_sem] theorem tby48 : tby Proofs.Try.prog 48 = 48 := by kernel_rfl
@[go_sem] theorem tzero48 : tzero Proofs.Try.prog 48 = some (.agg [.int .i64 0, .int .i64 0, .int .i64 0, .int .i64 0, .int .i64 0, .int .i64 0]) := by kernel_rfl
@[go_sem] theorem tsz49 : tsz Proofs.Try.prog 49 = 2 := by kernel_rfl
@[go_sem] theorem tagg49 : tagg Proofs.Try.prog 49 = some true := by kernel_rfl
@[go_sem] theorem tby49 : tby Proofs.Try.prog 49 = 16 := by kernel_rfl
@[go_sem] theorem tzero49 : tzero Proofs.Try.prog 49 = some (.agg [.int .i64 0, .int .i64 0]) := by kernel_rfl
@[go_sem] theorem tsz50 : tsz Proofs.Try.prog 50 = 2 := by kernel_rfl
@[go_sem] theorem tagg50 : tagg Proofs.Try.prog 50 = some true := by kernel_rfl
@[go_sem] theorem tby50 : tby Proofs.Try.prog 50 = 16 := by kernel_rfl
@[go_sem] theorem tzero50 : tzero Proofs.Try.prog 50 = some (.agg [.int .i64 0, .int .i64 0]) := by kernel_rfl
@[go_sem] theorem tsz51 : tsz Proofs.Try.prog 51 = 5 := by kernel_rfl
@[go_sem] theorem tagg51 : tagg Proofs.Try.prog 51 = some true := by kernel_rfl
@[go_sem] theorem tby51 : tby Proofs.Try.prog 51 = 56 := by kernel_rfl
@[go_sem] theorem tzero51 : tzero Proofs.Try.prog 51 = some (.agg [.int .i64 0, .int .i64 0, .int .i64 0, .int .i64 0, .nils]) := by kernel_rfl
@[go_sem] theorem tsz52 : tsz Proofs.Try.prog 52 = 5 := by kernel_rfl
@[go_sem] theorem tagg52 : tagg Proofs.Try.prog 52 = some true := by kernel_rfl
@[go_sem] theorem tby52 : tby Proofs.Try.prog 52 = 56 := by kernel_rfl
@[go_sem] theorem tzero52 : tzero Proofs.Try.prog 52 = some (.agg [.int .i64 0, .int .i64 0, .int .i64 0, .int .i64 0, .nils]) := by kernel_rfl
@[go_sem] theorem tsz53 : tsz Proofs.Try.prog 53 = 1 := by kernel_rfl
@[go_sem] theorem tagg53 : tagg Proofs.Try.prog 53 = some false := by kernel_rfl
@[go_sem] theorem tby53 : tby Proofs.Try.prog 53 = 8 := by kernel_rfl
@[go_sem] theorem tzero53 : tzero Proofs.Try.prog 53 = some (.nilfn) := by kernel_rfl
@[go_sem] theorem tsz54 : tsz Proofs.Try.prog 54 = 1 := by kernel_rfl
@[go_sem] theorem tagg54 : tagg Proofs.Try.prog 54 = some false := by kernel_rfl
@[go_sem] theorem tby54 : tby Proofs.Try.prog 54 = 8 := by kernel_rfl
@[go_sem] theorem tzero54 : tzero Proofs.Try.prog 54 = some (.nilfn) := by kernel_rfl
@[go_sem] theorem tsz55 : tsz Proofs.Try.prog 55 = 2 := by kernel_rfl
@[go_sem] theorem tagg55 : tagg Proofs.Try.prog 55 = some true := by kernel_rfl
@[go_sem] theorem tby55 : tby Proofs.Try.prog 55 = 32 := by kernel_rfl
@[go_sem] theorem tzero55 : tzero Proofs.Try.prog 55 = some (.agg [.int .i64 0, .nils]) := by kernel_rfl
@[go_sem] theorem tsz56 : tsz Proofs.Try.prog 56 = 2 := by kernel_rfl
@[go_sem] theorem tagg56 : tagg Proofs.Try.prog 56 = some true := by kernel_rfl
@[go_sem] theorem tby56 : tby Proofs.Try.prog 56 = 32 := by kernel_rfl
@[go_sem] theorem tzero56 : tzero Proofs.Try.prog 56 = some (.agg [.int .i64 0, .nils]) := by kernel_rfl
@[go_sem] theorem tsz57 : tsz Proofs.Try.prog 57 = 1 := by kernel_rfl
@[go_sem] theorem tagg57 : tagg Proofs.Try.prog 57 = some false := by kernel_rfl
@[go_sem] theorem tby57 : tby Proofs.Try.prog 57 = 8 := by kernel_rfl
@[go_sem] theorem tzero57 : tzero Proofs.Try.prog 57 = some (.nilfn) := by kernel_rfl
@[go_sem] theorem tsz58 : tsz Proofs.Try.prog 58 = 1 := by kernel_rfl
@[go_sem] theorem tagg58 : tagg Proofs.Try.prog 58 = some false := by kernel_rfl
@[go_sem] theorem tby58 : tby Proofs.Try.prog 58 = 8 := by kernel_rfl
@[go_sem] theorem tzero58 : tzero Proofs.Try.prog 58 = some (.nilfn) := by kernel_rfl
@[go_sem] theorem tsz59 : tsz Proofs.Try.prog 59 = 1 := by kernel_rfl
@[go_sem] theorem tagg59 : tagg Proofs.Try.prog 59 = some false := by kernel_rfl
@[go_sem] theorem tby59 : tby Proofs.Try.prog 59 = 8 := by kernel_rfl
@[go_sem] theorem tzero59 : tzero Proofs.Try.prog 59 = some (.nilfn) := by kernel_rfl
@[go_sem] theorem tsz60 : tsz Proofs.Try.prog 60 = 1 := by kernel_rfl
@[go_sem] theorem tagg60 : tagg Proofs.Try.prog 60 = some false := by kernel_rfl
@[go_sem] theorem tby60 : tby Proofs.Try.prog 60 = 8 := by kernel_rfl
@[go_sem] theorem tzero60 : tzero Proofs.Try.prog 60 = some (.nilfn) := by kernel_rfl
@[go_sem] theorem tsz61 : tsz Proofs.Try.prog 61 = 5 := by kernel_rfl
@[go_sem] theorem tagg61 : tagg Proofs.Try.prog 61 = some true := by kernel_rfl
@[go_sem] theorem tby61 : tby Proofs.Try.prog 61 = 56 := by kernel_rfl
@[go_sem] theorem tzero61 : tzero Proofs.Try.prog 61 = some (.agg [.int .i64 0, .int .i64 0, .int .i64 0, .int .i64 0, .nils]) := by kernel_rfl
@[go_sem] theorem tsz62 : tsz Proofs.Try.prog 62 = 1 := by kernel_rfl
@[go_sem] theorem tagg62 : tagg Proofs.Try.prog 62 = some false := by kernel_rfl
@[go_sem] theorem tby62 : tby Proofs.Try.prog 62 = 8 := by kernel_rfl
@[go_sem] theorem tzero62 : tzero Proofs.Try.prog 62 = some (.nilfn) := by kernel_rfl
@[go_sem] theorem tsz63 : tsz Proofs.Try.prog 63 = 4 := by kernel_rfl
@[go_sem] theorem tagg63 : tagg Proofs.Try.prog 63 = some true := by kernel_rfl
@[go_sem] theorem tby63 : tby Proofs.Try.prog 63 = 32 := by kernel_rfl
@[go_sem] theorem tzero63 : tzero Proofs.Try.prog 63 = some (.agg [.int .i64 0, .int .i64 0, .int .i64 0, .int .i64 0]) := by kernel_rfl
@[go_sem] theorem tsz64 : tsz Proofs.Try.prog 64 = 2 := by kernel_rfl
@[go_sem] theorem tagg64 : tagg Proofs.Try.prog 64 = some true := by kernel_rfl
@[go_sem] theorem tby64 : tby Proofs.Try.prog 64 = 32 := by kernel_rfl
@[go_sem] theorem tzero64 : tzero Proofs.Try.prog 64 = some (.agg [.int .i64 0, .nils]) := by kernel_rfl
@[go_sem] theorem tsz65 : tsz Proofs.Try.prog 65 = 1 := by kernel_rfl
@[go_sem] theorem tagg65 : tagg Proofs.Try.prog 65 = some false := by kernel_rfl
@[go_sem] theorem tby65 : tby Proofs.Try.prog 65 = 24 := by kernel_rfl
@[go_sem] theorem tzero65 : tzero Proofs.Try.prog 65 = some (.nils) := by kernel_rfl
@[go_sem] theorem tsz66 : tsz Proofs.Try.prog 66 = 13 := by kernel_rfl
@[go_sem] theorem tagg66 : tagg Proofs.Try.prog 66 = some true := by kernel_rfl
@[go_sem] theorem tby66 : tby Proofs.Try.prog 66 = 160 := by kernel_rfl
@[go_sem] theorem tzero66 : tzero Proofs.Try.prog 66 = some (.agg [.str [], .nils, .int .i64 0, .int .i64 0, .int .i64 0, .int .i64 0, .int .i64 0, .int .i64 0, .int .i64 0, .int .i64 0, .int .i64 0, .nils, .nils]) := by kernel_rfl
@[go_sem] theorem tsz67 : tsz Proofs.Try.prog 67 = 13 := by kernel_rfl
@[go_sem] theorem tagg67 : tagg Proofs.Try.prog 67 = some true := by kernel_rfl
@[go_sem] theorem tby67 : tby Proofs.Try.prog 67 = 160 := by kernel_rfl
@[go_sem] theorem tzero67 : tzero Proofs.Try.prog 67 = some (.agg [.str [], .nils, .int .i64 0, .int .i64 0, .int .i64 0, .int .i64 0, .int .i64 0, .int .i64 0, .int .i64 0, .int .i64 0, .int .i64 0, .nils, .nils]) := by kernel_rfl
@[go_sem] theorem tsz69 : tsz Proofs.Try.prog 69 = 1 := by kernel_rfl
@[go_sem] theorem tagg69 : tagg Proofs.Try.prog 69 = some false := by kernel_rfl
@[go_sem] theorem tby69 : tby Proofs.Try.prog 69 = 8 := by kernel_rfl
@[go_sem] theorem tzero69 : tzero Proofs.Try.prog 69 = some (.nilfn) := by kernel_rfl
@[go_sem] theorem tsz70 : tsz Proofs.Try.prog 70 = 6 := by kernel_rfl
@[go_sem] theorem tagg70 : tagg Proofs.Try.prog 70 = some true := by kernel_rfl
@[go_sem] theorem tby70 : tby Proofs.Try.prog 70 = 48 := by kernel_rfl
@[go_sem] theorem tzero70 : tzero Proofs.Try.prog 70 = some (.agg [.int .i64 0, .int .i64 0, .int .i64 0, .int .i64 0, .int .i64 0, .int .i64 0]) := by kernel_rfl
@[go_sem] theorem tsz72 : tsz Proofs.Try.prog 72 = 1 := by kernel_rfl
@[go_sem] theorem tagg72 : tagg Proofs.Try.prog 72 = some false := by kernel_rfl
@[go_sem] theorem tby72 : tby Proofs.Try.prog 72 = 8 := by kernel_rfl
@[go_sem] theorem tzero72 : tzero Proofs.Try.prog 72 = some (.nilfn) := by kernel_rfl
@[go_sem] theorem tsz73 : tsz Proofs.Try.prog 73 = 1 := by kernel_rfl
@[go_sem] theorem tagg73 : tagg Proofs.Try.prog 73 = some false := by kernel_rfl
@[go_sem] theorem tby73 : tby Proofs.Try.prog 73 = 8 := by kernel_rfl
@[go_sem] theorem tzero73 : tzero Proofs.Try.prog 73 = some (.nilfn) := by kernel_rfl
@[go_sem] theorem tsz74 : tsz Proofs.Try.prog 74 = 1 := by kernel_rfl
@[go_sem] theorem tagg74 : tagg Proofs.Try.prog 74 = some false := by kernel_rfl
@[go_sem] theorem tby74 : tby Proofs.Try.prog 74 = 8 := by kernel_rfl
@[go_sem] theorem tzero74 : tzero Proofs.Try.prog 74 = some (.nilfn) := by kernel_rfl
@[go_sem] theorem tsz75 : tsz Proofs.Try.prog 75 = 1 := by kernel_rfl
@[go_sem] theorem tagg75 : tagg Proofs.Try.prog 75 = some false := by kernel_rfl
@[go_sem] theorem tby75 : tby Proofs.Try.prog 75 = 8 := by kernel_rfl
@[go_sem] theorem tzero75 : tzero Proofs.Try.prog 75 = some (.nilfn) := by kernel_rfl
@[go_sem] theorem tsz76 : tsz Proofs.Try.prog 76 = 2 := by kernel_rfl
@[go_sem] theorem tagg76 : tagg Proofs.Try.prog 76 = some true := by kernel_rfl
@[go_sem] theorem tby76 : tby Proofs.Try.prog 76 = 16 := by kernel_rfl
@[go_sem] theorem tzero76 : tzero Proofs.Try.prog 76 = some (.agg [.int .i64 0, .int .i64 0]) := by kernel_rfl
@[go_sem] theorem tsz77 : tsz Proofs.Try.prog 77 = 4 := by kernel_rfl
@[go_sem] theorem tagg77 : tagg Proofs.Try.prog 77 = some true := by kernel_rfl
@[go_sem] theorem tby77 : tby Proofs.Try.prog 77 = 32 := by kernel_rfl
@[go_sem] theorem tzero77 : tzero Proofs.Try.prog 77 = some (.agg [.int .i64 0, .int .i64 0, .int .i64 0, .int .i64 0]) := by kernel_rfl
@[go_sem] theorem tsz78 : tsz Proofs.Try.prog 78 = 6 := by kernel_rfl
@[go_sem] theorem tagg78 : tagg Proofs.Try.prog 78 = some true := by kernel_rfl
@[go_sem] theorem tby78 : tby Proofs.Try.prog 78 = 48 := by kernel_rfl
@[go_sem] theorem tzero78 : tzero Proofs.Try.prog 78 = some (.agg [.int .i64 0, .int .i64 0, .int .i64 0, .int .i64 0, .int .i64 0, .int .i64 0]) := by kernel_rfl
@[go_sem] theorem tsz79 : tsz Proofs.Try.prog 79 = 6 := by kernel_rfl
@[go_sem] theorem tagg79 : tagg Proofs.Try.prog 79 = some true := by kernel_rfl
@[go_sem] theorem tby79 : tby Proofs.Try.prog 79 = 48 := by kernel_rfl
@[go_sem] theorem tzero79 : tzero Proofs.Try.prog 79 = some (.agg [.int .i64 0, .int .i64 0, .int .i64 0, .int .i64 0, .int .i64 0, .int .i64 0]) := by kernel_rfl
@[go_sem] theorem tsz80 : tsz Proofs.Try.prog 80 = 1 := by kernel_rfl
@[go_sem] theorem tagg80 : tagg Proofs.Try.prog 80 = some false := by kernel_rfl
@[go_sem] theorem tby80 : tby Proofs.Try.prog 80 = 8 := by kernel_rfl
@[go_sem] theorem tzero80 : tzero Proofs.Try.prog 80 = some (.nilfn) := by kernel_rfl
@[go_sem] theorem tsz81 : tsz Proofs.Try.prog 81 = 1 := by kernel_rfl
@[go_sem] theorem tagg81 : tagg Proofs.Try.prog 81 = some false := by kernel_rfl
@[go_sem] theorem tby81 : tby Proofs.Try.prog 81 = 8 := by kernel_rfl
@[go_sem] theorem tzero81 : tzero Proofs.Try.prog 81 = some (.nilfn) := by kernel_rfl
@[go_sem] theorem tsz82 : tsz Proofs.Try.prog 82 = 1 := by kernel_rfl
@[go_sem] theorem tagg82 : tagg Proofs.Try.prog 82 = some false := by kernel_rfl
@[go_sem] theorem tby82 : tby Proofs.Try.prog 82 = 8 := by kernel_rfl
@[go_sem] theorem tzero82 : tzero Proofs.Try.prog 82 = some (.nilfn) := by kernel_rfl
@[go_sem] theorem tsz83 : tsz Proofs.Try.prog 83 = 1 := by kernel_rfl
@[go_sem] theorem tagg83 : tagg Proofs.Try.prog 83 = some false := by kernel_rfl
@[go_sem] theorem tby83 : tby Proofs.Try.prog 83 = 8 := by kernel_rfl
@[go_sem] theorem tzero83 : tzero Proofs.Try.prog 83 = some (.nilfn) := by kernel_rfl
@[go_sem] theorem tsz84 : tsz Proofs.Try.prog 84 = 2 := by kernel_rfl
@[go_sem] theorem tagg84 : tagg Proofs.Try.prog 84 = some true := by kernel_rfl
@[go_sem] theorem tby84 : tby Proofs.Try.prog 84 = 16 := by kernel_rfl
@[go_sem] theorem tzero84 : tzero Proofs.Try.prog 84 = some (.agg [.int .i64 0, .int .i64 0]) := by kernel_rfl
@[go_sem] theorem tsz85 : tsz Proofs.Try.prog 85 = 2 := by kernel_rfl
@[go_sem] theorem tagg85 : tagg Proofs.Try.prog 85 = some true := by kernel_rfl
@[go_sem] theorem tby85 : tby Proofs.Try.prog 85 = 16 := by kernel_rfl
@[go_sem] theorem tzero85 : tzero Proofs.Try.prog 85 = some (.agg [.int .i64 0, .int .i64 0]) := by kernel_rfl
@[go_sem] theorem tsz86 : tsz Proofs.Try.prog 86 = 1 := by kernel_rfl
@[go_sem] theorem tagg86 : tagg Proofs.Try.prog 86 = some false := by kernel_rfl
@[go_sem] theorem tby86 : tby Proofs.Try.prog 86 = 8 := by kernel_rfl
@[go_sem] theorem tzero86 : tzero Proofs.Try.prog 86 = some (.nilfn) := by kernel_rfl
@[go_sem] theorem tsz87 : tsz Proofs.Try.prog 87 = 1 := by kernel_rfl
@[go_sem] theorem tagg87 : tagg Proofs.Try.prog 87 = some false := by kernel_rfl
@[go_sem] theorem tby87 : tby Proofs.Try.prog 87 = 8 := by kernel_rfl
@[go_sem] theorem tzero87 : tzero Proofs.Try.prog 87 = some (.nilfn) := by kernel_rfl
@[go_sem] theorem tsz88 : tsz Proofs.Try.prog 88 = 1 := by kernel_rfl
@[go_sem] theorem tagg88 : tagg Proofs.Try.prog 88 = some false := by kernel_rfl
@[go_sem] theorem tby88 : tby Proofs.Try.prog 88 = 8 := by kernel_rfl
@[go_sem] theorem tzero88 : tzero Proofs.Try.prog 88 = some (.nilfn) := by kernel_rfl
@[go_sem] theorem tsz89 : tsz Proofs.Try.prog 89 = 1 := by kernel_rfl
@[go_sem] theorem tagg89 : tagg Proofs.Try.prog 89 = some false := by kernel_rfl
@[go_sem] theorem tby89 : tby Proofs.Try.prog 89 = 8 := by kernel_rfl
@[go_sem] theorem tzero89 : tzero Proofs.Try.prog 89 = some (.nilfn) := by kernel_rfl
@[go_sem] theorem tsz90 : tsz Proofs.Try.prog 90 = 1 := by kernel_rfl
@[go_sem] theorem tagg90 : tagg Proofs.Try.prog 90 = some false := by kernel_rfl
@[go_sem] theorem tby90 : tby Proofs.Try.prog 90 = 8 := by kernel_rfl
@[go_sem] theorem tzero90 : tzero Proofs.Try.prog 90 = some (.nilfn) := by kernel_rfl
@[go_sem] theorem tsz91 : tsz Proofs.Try.prog 91 = 1 := by kernel_rfl
@[go_sem] theorem tagg91 : tagg Proofs.Try.prog 91 = some false := by kernel_rfl
@[go_sem] theorem tby91 : tby Proofs.Try.prog 91 = 8 := by kernel_rfl
@[go_sem] theorem tzero91 : tzero Proofs.Try.prog 91 = some (.nilfn) := by kernel_rfl
@[go_sem] theorem tsz92 : tsz Proofs.Try.prog 92 = 1 := by kernel_rfl
@[go_sem] theorem tagg92 : tagg Proofs.Try.prog 92 = some false := by kernel_rfl
@[go_sem] theorem tby92 : tby Proofs.Try.prog 92 = 8 := by kernel_rfl
@[go_sem] theorem tzero92 : tzero Proofs.Try.prog 92 = some (.nilfn) := by kernel_rfl
@[go_sem] theorem tsz93 : tsz Proofs.Try.prog 93 = 1 := by kernel_rfl
@[go_sem] theorem tagg93 : tagg Proofs.Try.prog 93 = some false := by kernel_rfl
@[go_sem] theorem tby93 : tby Proofs.Try.prog 93 = 8 := by kernel_rfl
@[go_sem] theorem tzero93 : tzero Proofs.Try.prog 93 = some (.nilfn) := by kernel_rfl
@[go_sem] theorem tsz94 : tsz Proofs.Try.prog 94 = 1 := by kernel_rfl
@[go_sem] theorem tagg94 : tagg Proofs.Try.prog 94 = some false := by kernel_rfl
@[go_sem] theorem tby94 : tby Proofs.Try.prog 94 = 8 := by kernel_rfl
@[go_sem] theorem tzero94 : tzero Proofs.Try.prog 94 = some (.nilfn) := by kernel_rfl
@[go_sem] theorem tsz95 : tsz Proofs.Try.prog 95 = 1 := by kernel_rfl
@[go_sem] theorem tagg95 : tagg Proofs.Try.prog 95 = some false := by kernel_rfl
@[go_sem] theorem tby95 : tby Proofs.Try.prog 95 = 8 := by kernel_rfl
@[go_sem] theorem tzero95 : tzero Proofs.Try.prog 95 = some (.nilfn) := by kernel_rfl
@[go_sem] theorem tsz96 : tsz Proofs.Try.prog 96 = 1 := by kernel_rfl
@[go_sem] theorem tagg96 : tagg Proofs.Try.prog 96 = some false := by kernel_rfl
@[go_sem] theorem tby96 : tby Proofs.Try.prog 96 = 8 := by kernel_rfl
@[go_sem] theorem tzero96 : tzero Proofs.Try.prog 96 = some (.nilfn) := by kernel_rfl
@[go_sem] theorem tsz97 : tsz Proofs.Try.prog 97 = 1 := by kernel_rfl
@[go_sem] theorem tagg97 : tagg Proofs.Try.prog 97 = some false := by kernel_rfl
@[go_sem] theorem tby97 : tby Proofs.Try.prog 97 = 8 := by kernel_rfl
@[go_sem] theorem tzero97 : tzero Proofs.Try.prog 97 = some (.nilfn) := by kernel_rfl
@[go_sem] theorem tsz98 : tsz Proofs.Try.prog 98 = 1 := by kernel_rfl
@[go_sem] theorem tagg98 : tagg Proofs.Try.prog 98 = some false := by kernel_rfl
@[go_sem] theorem tby98 : tby Proofs.Try.prog 98 = 8 := by kernel_rfl
@[go_sem] theorem tzero98 : tzero Proofs.Try.prog 98 = some (.nilfn) := by kernel_rfl
@[go_sem] theorem tsz99 : tsz Proofs.Try.prog 99 = 1 := by kernel_rfl
@[go_sem] theorem tagg99 : tagg Proofs.Try.prog 99 = some false := by kernel_rfl
@[go_sem] theorem tby99 : tby Proofs.Try.prog 99 = 8 := by kernel_rfl
@[go_sem] theorem tzero99 : tzero Proofs.Try.prog 99 = some (.nilfn) := by kernel_rfl
@[go_sem] theorem tsz100 : tsz Proofs.Try.prog 100 = 1 := by kernel_rfl
@[go_sem] theorem tagg100 : tagg Proofs.Try.prog 100 = some false := by kernel_rfl
@[go_sem] theorem tby100 : tby Proofs.Try.prog 100 = 8 := by kernel_rfl
@[go_sem] theorem tzero100 : tzero Proofs.Try.prog 100 = some (.nilfn) := by kernel_rfl
@[go_sem] theorem tsz101 : tsz Proofs.Try.prog 101 = 1 := by kernel_rfl
@[go_sem] theorem tagg101 : tagg Proofs.Try.prog 101 = some false := by kernel_rfl
@[go_sem] theorem tby101 : tby Proofs.Try.prog 101 = 8 := by kernel_rfl
@[go_sem] theorem tzero101 : tzero Proofs.Try.prog 101 = some (.nilfn) := by kernel_rfl
@[go_sem] theorem tsz102 : tsz Proofs.Try.prog 102 = 1 := by kernel_rfl
@[go_sem] theorem tagg102 : tagg Proofs.Try.prog 102 = some false := by kernel_rfl
@[go_sem] theorem tby102 : tby Proofs.Try.prog 102 = 8 := by kernel_rfl
@[go_sem] theorem tzero102 : tzero Proofs.Try.prog 102 = some (.nilfn) := by kernel_rfl
@[go_sem] theorem tsz103 : tsz Proofs.Try.prog 103 = 1 := by kernel_rfl
@[go_sem] theorem tagg103 : tagg Proofs.Try.prog 103 = some false := by kernel_rfl
@[go_sem] theorem tby103 : tby Proofs.Try.prog 103 = 8 := by kernel_rfl
@[go_sem] theorem tzero103 : tzero Proofs.Try.prog 103 = some (.nilfn) := by kernel_rfl
@[go_sem] theorem tsz104 : tsz Proofs.Try.prog 104 = 1 := by kernel_rfl
@[go_sem] theorem tagg104 : tagg Proofs.Try.prog 104 = some false := by kernel_rfl
@[go_sem] theorem tby104 : tby Proofs.Try.prog 104 = 8 := by kernel_rfl
@[go_sem] theorem tzero104 : tzero Proofs.Try.prog 104 = some (.nilfn) := by kernel_rfl
@[go_sem] theorem tsz105 : tsz Proofs.Try.prog 105 = 1 := by kernel_rfl
@[go_sem] theorem tagg105 : tagg Proofs.Try.prog 105 = some false := by kernel_rfl
@[go_sem] theorem tby105 : tby Proofs.Try.prog 105 = 8 := by kernel_rfl
@[go_sem] theorem tzero105 : tzero Proofs.Try.prog 105 = some (.nilfn) := by kernel_rfl
@[go_sem] theorem tsz106 : tsz Proofs.Try.prog 106 = 1 := by kernel_rfl
@[go_sem] theorem tagg106 : tagg Proofs.Try.prog 106 = some true := by kernel_rfl
@[go_sem] theorem tby106 : tby Proofs.Try.prog 106 = 8 := by kernel_rfl
@[go_sem] theorem tzero106 : tzero Proofs.Try.prog 106 = some (.agg [.nilfn]) := by kernel_rfl
@[go_sem] theorem tsz107 : tsz Proofs.Try.prog 107 = 1 := by kernel_rfl
@[go_sem] theorem tagg107 : tagg Proofs.Try.prog 107 = some true := by kernel_rfl
@[go_sem] theorem tby107 : tby Proofs.Try.prog 107 = 8 := by kernel_rfl
@[go_sem] theorem tzero107 : tzero Proofs.Try.prog 107 = some (.agg [.nilfn]) := by kernel_rfl
@[go_sem] theorem tsz109 : tsz Proofs.Try.prog 109 = 1 := by kernel_rfl
@[go_sem] theorem tagg109 : tagg Proofs.Try.prog 109 = some false := by kernel_rfl
@[go_sem] theorem tby109 : tby Proofs.Try.prog 109 = 8 := by kernel_rfl
@[go_sem] theorem tzero109 : tzero Proofs.Try.prog 109 = some (.nilfn) := by kernel_rfl
@[go_sem] theorem tsz110 : tsz Proofs.Try.prog 110 = 1 := by kernel_rfl
@[go_sem] theorem tagg110 : tagg Proofs.Try.prog 110 = some false := by kernel_rfl
@[go_sem] theorem tby110 : tby Proofs.Try.prog 110 = 8 := by kernel_rfl
@[go_sem] theorem tzero110 : tzero Proofs.Try.prog 110 = some (.nilfn) := by kernel_rfl
@[go_sem] theorem tsz111 : tsz Proofs.Try.prog 111 = 7 := by kernel_rfl
@[go_sem] theorem tagg111 : tagg Proofs.Try.prog 111 = some true := by kernel_rfl
@[go_sem] theorem tby111 : tby Proofs.Try.prog 111 = 72 := by kernel_rfl
@[go_sem] theorem tzero111 : tzero Proofs.Try.prog 111 = some (.agg [.int .i64 0, .int .i64 0, .int .i64 0, .int .i64 0, .nils, .int .i64 0, .int .i64 0]) := by kernel_rfl
@[go_sem] theorem tsz112 : tsz Proofs.Try.prog 112 = 7 := by kernel_rfl
@[go_sem] theorem tagg112 : tagg Proofs.Try.prog 112 = some true := by kernel_rfl
@[go_sem] theorem tby112 : tby Proofs.Try.prog 112 = 72 := by kernel_rfl
@[go_sem] theorem tzero112 : tzero Proofs.Try.prog 112 = some (.agg [.int .i64 0, .int .i64 0, .int .i64 0, .int .i64 0, .nils, .int .i64 0, .int .i64 0]) := by kernel_rfl
@[go_sem] theorem tsz114 : tsz Proofs.Try.prog 114 = 1 := by kernel_rfl
@[go_sem] theorem tagg114 : tagg Proofs.Try.prog 114 = some false := by kernel_rfl
@[go_sem] theorem tby114 : tby Proofs.Try.prog 114 = 8 := by kernel_rfl
@[go_sem] theorem tzero114 : tzero Proofs.Try.prog 114 = some (.nilfn) := by kernel_rfl
@[go_sem] theorem tsz115 : tsz Proofs.Try.prog 115 = 1 := by kernel_rfl
@[go_sem] theorem tagg115 : tagg Proofs.Try.prog 115 = some false := by kernel_rfl
@[go_sem] theorem tby115 : tby Proofs.Try.prog 115 = 8 := by kernel_rfl
@[go_sem] theorem tzero115 : tzero Proofs.Try.prog 115 = some (.nilfn) := by kernel_rfl
@[go_sem] theorem tsz116 : tsz Proofs.Try.prog 116 = 1 := by kernel_rfl
@[go_sem] theorem tagg116 : tagg Proofs.Try.prog 116 = some false := by kernel_rfl
@[go_sem] theorem tby116 : tby Proofs.Try.prog 116 = 8 := by kernel_rfl
@[go_sem] theorem tzero116 : tzero Proofs.Try.prog 116 = some (.nilfn) := by kernel_rfl
@[go_sem] theorem tsz117 : tsz Proofs.Try.prog 117 = 1 := by kernel_rfl
@[go_sem] theorem tagg117 : tagg Proofs.Try.prog 117 = some false := by kernel_rfl
@[go_sem] theorem tby117 : tby Proofs.Try.prog 117 = 8 := by kernel_rfl
@[go_sem] theorem tzero117 : tzero Proofs.Try.prog 117 = some (.nilfn) := by kernel_rfl
@[go_sem] theorem tsz118 : tsz Proofs.Try.prog 118 = 1 := by kernel_rfl
@[go_sem] theorem tagg118 : tagg Proofs.Try.prog 118 = some false := by kernel_rfl
@[go_sem] theorem tby118 : tby Proofs.Try.prog 118 = 8 := by kernel_rfl
@[go_sem] theorem tzero118 : tzero Proofs.Try.prog 118 = some (.nilfn) := by kernel_rfl
@[go_sem] theorem tsz119 : tsz Proofs.Try.prog 119 = 1 := by kernel_rfl
@[go_sem] theorem tagg119 : tagg Proofs.Try.prog 119 = some false := by kernel_rfl
@[go_sem] theorem tby119 : tby Proofs.Try.prog 119 = 8 := by kernel_rfl
@[go_sem] theorem tzero119 : tzero Proofs.Try.prog 119 = some (.nilfn) := by kernel_rfl
@[go_sem] theorem tsz120 : tsz Proofs.Try.prog 120 = 1 := by kernel_rfl
@[go_sem] theorem tagg120 : tagg Proofs.Try.prog 120 = some false := by kernel_rfl
@[go_sem] theorem tby120 : tby Proofs.Try.prog 120 = 24 := by kernel_rfl
@[go_sem] theorem tzero120 : tzero Proofs.Try.prog 120 = some (.nils) := by kernel_rfl
@[go_sem] theorem tsz121 : tsz Proofs.Try.prog 121 = 1 := by kernel_rfl
@[go_sem] theorem tagg121 : tagg Proofs.Try.prog 121 = some false := by kernel_rfl
@[go_sem] theorem tby121 : tby Proofs.Try.prog 121 = 8 := by kernel_rfl
@[go_sem] theorem tzero121 : tzero Proofs.Try.prog 121 = some (.nilfn) := by kernel_rfl
@[go_sem] theorem tsz122 : tsz Proofs.Try.prog 122 = 1 := by kernel_rfl
@[go_sem] theorem tagg122 : tagg Proofs.Try.prog 122 = some false := by kernel_rfl
@[go_sem] theorem tby122 : tby Proofs.Try.prog 122 = 8 := by kernel_rfl
@[go_sem] theorem tzero122 : tzero Proofs.Try.prog 122 = some (.nilfn) := by kernel_rfl
@[go_sem] theorem tsz123 : tsz Proofs.Try.prog 123 = 1 := by kernel_rfl
@[go_sem] theorem tagg123 : tagg Proofs.Try.prog 123 = some false := by kernel_rfl
@[go_sem] theorem tby123 : tby Proofs.Try.prog 123 = 8 := by kernel_rfl
@[go_sem] theorem tzero123 : tzero Proofs.Try.prog 123 = some (.nilfn) := by kernel_rfl
@[go_sem] theorem tsz124 : tsz Proofs.Try.prog 124 = 1 := by kernel_rfl
@[go_sem] theorem tagg124 : tagg Proofs.Try.prog 124 = some false := by kernel_rfl
@[go_sem] theorem tby124 : tby Proofs.Try.prog 124 = 8 := by kernel_rfl
@[go_sem] theorem tzero124 : tzero Proofs.Try.prog 124 = some (.nilfn) := by kernel_rfl
@[go_sem] theorem tsz125 : tsz Proofs.Try.prog 125 = 1 := by kernel_rfl
@[go_sem] theorem tagg125 : tagg Proofs.Try.prog 125 = some false := by kernel_rfl
@[go_sem] theorem tby125 : tby Proofs.Try.prog 125 = 8 := by kernel_rfl
@[go_sem] theorem tzero125 : tzero Proofs.Try.prog 125 = some (.nilfn) := by kernel_rfl
@[go_sem] theorem tsz126 : tsz Proofs.Try.prog 126 = 1 := by kernel_rfl
@[go_sem] theorem tagg126 : tagg Proofs.Try.prog 126 = some false := by kernel_rfl
@[go_sem] theorem tby126 : tby Proofs.Try.prog 126 = 8 := by kernel_rfl
@[go_sem] theorem tzero126 : tzero Proofs.Try.prog 126 = some (.nilfn) := by kernel_rfl
@[go_sem] theorem tsz127 : tsz Proofs.Try.prog 127 = 1 := by kernel_rfl
@[go_sem] theorem tagg127 : tagg Proofs.Try.prog 127 = some false := by kernel_rfl
@[go_sem] theorem tby127 : tby Proofs.Try.prog 127 = 8 := by kernel_rfl
@[go_sem] theorem tzero127 : tzero Proofs.Try.prog 127 = some (.nilfn) := by kernel_rfl
@[go_sem] theorem tsz128 : tsz Proofs.Try.prog 128 = 1 := by kernel_rfl
@[go_sem] theorem tagg128 : tagg Proofs.Try.prog 128 = some false := by kernel_rfl
@[go_sem] theorem tby128 : tby Proofs.Try.prog 128 = 8 := by kernel_rfl
@[go_sem] theorem tzero128 : tzero Proofs.Try.prog 128 = some (.nilfn) := by kernel_rfl
@[go_sem] theorem tsz129 : tsz Proofs.Try.prog 129 = 1 := by kernel_rfl
@[go_sem] theorem tagg129 : tagg Proofs.Try.prog 129 = some false := by kernel_rfl
@[go_sem] theorem tby129 : tby Proofs.Try.prog 129 = 8 := by kernel_rfl
@[go_sem] theorem tzero129 : tzero Proofs.Try.prog 129 = some (.nilfn) := by kernel_rfl
@[go_sem] theorem tsz130 : tsz Proofs.Try.prog 130 = 1 := by kernel_rfl
@[go_sem] theorem tagg130 : tagg Proofs.Try.prog 130 = some false := by kernel_rfl
@[go_sem] theorem tby130 : tby Proofs.Try.prog 130 = 8 := by kernel_rfl
@[go_sem] theorem tzero130 : tzero Proofs.Try.prog 130 = some (.nilfn) := by kernel_rfl
@[go_sem] theorem tsz131 : tsz Proofs.Try.prog 131 = 1 := by kernel_rfl
@[go_sem] theorem tagg131 : tagg Proofs.Try.prog 131 = some false := by kernel_rfl
@[go_sem] theorem tby131 : tby Proofs.Try.prog 131 = 8 := by kernel_rfl
@[go_sem] theorem tzero131 : tzero Proofs.Try.prog 131 = some (.nilfn) := by kernel_rfl
@[go_sem] theorem tsz132 : tsz Proofs.Try.prog 132 = 1 := by kernel_rfl
@[go_sem] theorem tagg132 : tagg Proofs.Try.prog 132 = some false := by kernel_rfl
@[go_sem] theorem tby132 : tby Proofs.Try.prog 132 = 8 := by kernel_rfl
@[go_sem] theorem tzero132 : tzero Proofs.Try.prog 132 = some (.nilfn) := by kernel_rfl
@[go_sem] theorem tsz133 : tsz Proofs.Try.prog 133 = 1 := by kernel_rfl
@[go_sem] theorem tagg133 : tagg Proofs.Try.prog 133 = some false := by kernel_rfl
@[go_sem] theorem tby133 : tby Proofs.Try.prog 133 = 8 := by kernel_rfl
@[go_sem] theorem tzero133 : tzero Proofs.Try.prog 133 = some (.nilfn) := by kernel_rfl
@[go_sem] theorem tsz134 : tsz Proofs.Try.prog 134 = 1 := by kernel_rfl
@[go_sem] theorem tagg134 : tagg Proofs.Try.prog 134 = some false := by kernel_rfl
@[go_sem] theorem tby134 : tby Proofs.Try.prog 134 = 8 := by kernel_rfl
@[go_sem] theorem tzero134 : tzero Proofs.Try.prog 134 = some (.nilfn) := by kernel_rfl
@[go_sem] theorem tsz135 : tsz Proofs.Try.prog 135 = 1 := by kernel_rfl
@[go_sem] theorem tagg135 : tagg Proofs.Try.prog 135 = some false := by kernel_rfl
@[go_sem] theorem tby135 : tby Proofs.Try.prog 135 = 8 := by kernel_rfl
@[go_sem] theorem tzero135 : tzero Proofs.Try.prog 135 = some (.nilfn) := by kernel_rfl
@[go_sem] theorem tsz136 : tsz Proofs.Try.prog 136 = 1 := by kernel_rfl
@[go_sem] theorem tagg136 : tagg Proofs.Try.prog 136 = some false := by kernel_rfl
@[go_sem] theorem tby136 : tby Proofs.Try.prog 136 = 8 := by kernel_rfl
@[go_sem] theorem tzero136 : tzero Proofs.Try.prog 136 = some (.nilfn) := by kernel_rfl
@[go_sem] theorem tsz137 : tsz Proofs.Try.prog 137 = 1 := by kernel_rfl
@[go_sem] theorem tagg137 : tagg Proofs.Try.prog 137 = some false := by kernel_rfl
@[go_sem] theorem tby137 : tby Proofs.Try.prog 137 = 8 := by kernel_rfl
@[go_sem] theorem tzero137 : tzero Proofs.Try.prog 137 = some (.nilfn) := by kernel_rfl
@[go_sem] theorem tsz138 : tsz Proofs.Try.prog 138 = 1 := by kernel_rfl
@[go_sem] theorem tagg138 : tagg Proofs.Try.prog 138 = some false := by kernel_rfl
@[go_sem] theorem tby138 : tby Proofs.Try.prog 138 = 8 := by kernel_rfl
@[go_sem] theorem tzero138 : tzero Proofs.Try.prog 138 = some (.nilfn) := by kernel_rfl
@[go_sem] theorem tsz139 : tsz Proofs.Try.prog 139 = 1 := by kernel_rfl
@[go_sem] theorem tagg139 : tagg Proofs.Try.prog 139 = some false := by kernel_rfl
@[go_sem] theorem tby139 : tby Proofs.Try.prog 139 = 8 := by kernel_rfl
@[go_sem] theorem tzero139 : tzero Proofs.Try.prog 139 = some (.nilfn) := by kernel_rfl
@[go_sem] theorem tsz140 : tsz Proofs.Try.prog 140 = 1 := by kernel_rfl
@[go_sem] theorem tagg140 : tagg Proofs.Try.prog 140 = some false := by kernel_rfl
@[go_sem] theorem tby140 : tby Proofs.Try.prog 140 = 8 := by kernel_rfl
@[go_sem] theorem tzero140 : tzero Proofs.Try.prog 140 = some (.flt .f64 0) := by kernel_rfl
@[go_sem] theorem tsz141 : tsz Proofs.Try.prog 141 = 1 := by kernel_rfl
@[go_sem] theorem tagg141 : tagg Proofs.Try.prog 141 = some false := by kernel_rfl
@[go_sem] theorem tby141 : tby Proofs.Try.prog 141 = 8 := by kernel_rfl
@[go_sem] theorem tzero141 : tzero Proofs.Try.prog 141 = some (.nilfn) := by kernel_rfl
@[go_sem] theorem tsz142 : tsz Proofs.Try.prog 142 = 1 := by kernel_rfl
@[go_sem] theorem tagg142 : tagg Proofs.Try.prog 142 = some false := by kernel_rfl
@[go_sem] theorem tby142 : tby Proofs.Try.prog 142 = 8 := by kernel_rfl
@[go_sem] theorem tzero142 : tzero Proofs.Try.prog 142 = some (.nilfn) := by kernel_rfl
@[go_sem] theorem tsz143 : tsz Proofs.Try.prog 143 = 4 := by kernel_rfl
@[go_sem] theorem tagg143 : tagg Proofs.Try.prog 143 = some true := by kernel_rfl
@[go_sem] theorem tby143 : tby Proofs.Try.prog 143 = 40 := by kernel_rfl
@[go_sem] theorem tzero143 : tzero Proofs.Try.prog 143 = some (.agg [.nilp, .nilp, .nilp, .str []]) := by kernel_rfl
@[go_sem] theorem tsz144 : tsz Proofs.Try.prog 144 = 4 := by kernel_rfl
@[go_sem] theorem tagg144 : tagg Proofs.Try.prog 144 = some true := by kernel_rfl
@[go_sem] theorem tby144 : tby Proofs.Try.prog 144 = 40 := by kernel_rfl
@[go_sem] theorem tzero144 : tzero Proofs.Try.prog 144 = some (.agg [.nilp, .nilp, .nilp, .str []]) := by kernel_rfl
@[go_sem] theorem tsz145 : tsz Proofs.Try.prog 145 = 0 := by kernel_rfl
@[go_sem] theorem tagg145 : tagg Proofs.Try.prog 145 = some true := by kernel_rfl
@[go_sem] theorem tby145 : tby Proofs.Try.prog 145 = 0 := by kernel_rfl
@[go_sem] theorem tzero145 : tzero Proofs.Try.prog 145 = some (.agg []) := by kernel_rfl
@[go_sem] theorem tsz146 : tsz Proofs.Try.prog 146 = 0 := by kernel_rfl
@[go_sem] theorem tagg146 : tagg Proofs.Try.prog 146 = some true := by kernel_rfl
@[go_sem] theorem tby146 : tby Proofs.Try.prog 146 = 0 := by kernel_rfl
@[go_sem] theorem tzero146 : tzero Proofs.Try.prog 146 = some (.agg []) := by kernel_rfl
@[go_sem] theorem tsz147 : tsz Proofs.Try.prog 147 = 0 := by kernel_rfl
@[go_sem] theorem tagg147 : tagg Proofs.Try.prog 147 = some true := by kernel_rfl
@[go_sem] theorem tby147 : tby Proofs.Try.prog 147 = 0 := by kernel_rfl
@[go_sem] theorem tzero147 : tzero Proofs.Try.prog 147 = some (.agg []) := by kernel_rfl
@[go_sem] theorem tsz148 : tsz Proofs.Try.prog 148 = 1 := by kernel_rfl
@[go_sem] theorem tagg148 : tagg Proofs.Try.prog 148 = some false := by kernel_rfl
@[go_sem] theorem tby148 : tby Proofs.Try.prog 148 = 8 := by kernel_rfl
@[go_sem] theorem tzero148 : tzero Proofs.Try.prog 148 = some (.nilfn) := by kernel_rfl
@[go_sem] theorem tsz149 : tsz Proofs.Try.prog 149 = 1 := by kernel_rfl
@[go_sem] theorem tagg149 : tagg Proofs.Try.prog 149 = some false := by kernel_rfl
@[go_sem] theorem tby149 : tby Proofs.Try.prog 149 = 4 := by kernel_rfl
@[go_sem] theorem tzero149 : tzero Proofs.Try.prog 149 = some (.int .u32 0) := by kernel_rfl
@[go_sem] theorem tsz150 : tsz Proofs.Try.prog 150 = 1 := by kernel_rfl
@[go_sem] theorem tagg150 : tagg Proofs.Try.prog 150 = some false := by kernel_rfl
@[go_sem] theorem tby150 : tby Proofs.Try.prog 150 = 1 := by kernel_rfl
@[go_sem] theorem tzero150 : tzero Proofs.Try.prog 150 = some (.int .u8 0) := by kernel_rfl
@[go_sem] theorem tsz151 : tsz Proofs.Try.prog 151 = 1 := by kernel_rfl
@[go_sem] theorem tagg151 : tagg Proofs.Try.prog 151 = some false := by kernel_rfl
@[go_sem] theorem tby151 : tby Proofs.Try.prog 151 = 1 := by kernel_rfl
@[go_sem] theorem tzero151 : tzero Proofs.Try.prog 151 = some (.int .u8 0) := by kernel_rfl
@[go_sem] theorem tsz152 : tsz Proofs.Try.prog 152 = 1 := by kernel_rfl
@[go_sem] theorem tagg152 : tagg Proofs.Try.prog 152 = some false := by kernel_rfl
@[go_sem] theorem tby152 : tby Proofs.Try.prog 152 = 8 := by kernel_rfl
@[go_sem] theorem tzero152 : tzero Proofs.Try.prog 152 = some (.nilfn) := by kernel_rfl
@[go_sem] theorem tsz153 : tsz Proofs.Try.prog 153 = 1 := by kernel_rfl
@[go_sem] theorem tagg153 : tagg Proofs.Try.prog 153 = some false := by kernel_rfl
@[go_sem] theorem tby153 : tby Proofs.Try.prog 153 = 8 := by kernel_rfl
@[go_sem] theorem tzero153 : tzero Proofs.Try.prog 153 = some (.nilp) := by kernel_rfl
@[go_sem] theorem tsz154 : tsz Proofs.Try.prog 154 = 1 := by kernel_rfl
@[go_sem] theorem tagg154 : tagg Proofs.Try.prog 154 = some false := by kernel_rfl
@[go_sem] theorem tby154 : tby Proofs.Try.prog 154 = 4 := by kernel_rfl
@[go_sem] theorem tzero154 : tzero Proofs.Try.prog 154 = some (.int .i32 0) := by kernel_rfl
@[go_sem] theorem tsz155 : tsz Proofs.Try.prog 155 = 1 := by kernel_rfl
@[go_sem] theorem tagg155 : tagg Proofs.Try.prog 155 = some false := by kernel_rfl
@[go_sem] theorem tby155 : tby Proofs.Try.prog 155 = 4 := by kernel_rfl
@[go_sem] theorem tzero155 : tzero Proofs.Try.prog 155 = some (.int .i32 0) := by kernel_rfl
@[go_sem] theorem tsz156 : tsz Proofs.Try.prog 156 = 11 := by kernel_rfl
@[go_sem] theorem tagg156 : tagg Proofs.Try.prog 156 = some true := by kernel_rfl
@[go_sem] theorem tby156 : tby Proofs.Try.prog 156 = 48 := by kernel_rfl
@[go_sem] theorem tzero156 : tzero Proofs.Try.prog 156 = some (.agg [.int .u64 0, .int .u64 0, .int .u32 0, .int .u8 0, .int .u8 0, .int .u8 0, .int .u8 0, .nilfn, .nilp, .int .i32 0, .int .i32 0]) := by kernel_rfl
@[go_sem] theorem tsz157 : tsz Proofs.Try.prog 157 = 11 := by kernel_rfl
@[go_sem] theorem tagg157 : tagg Proofs.Try.prog 157 = some true := by kernel_rfl
@[go_sem] theorem tby157 : tby Proofs.Try.prog 157 = 48 := by kernel_rfl
@[go_sem] theorem tzero157 : tzero Proofs.Try.prog 157 = some (.agg [.int .u64 0, .int .u64 0, .int .u32 0, .int .u8 0, .int .u8 0, .int .u8 0, .int .u8 0, .nilfn, .nilp, .int .i32 0, .int .i32 0]) := by kernel_rfl
@[go_sem] theorem tsz158 : tsz Proofs.Try.prog 158 = 1 := by kernel_rfl
@[go_sem] theorem tagg158 : tagg Proofs.Try.prog 158 = some false := by kernel_rfl
@[go_sem] theorem tby158 : tby Proofs.Try.prog 158 = 8 := by kernel_rfl
@[go_sem] theorem tzero158 : tzero Proofs.Try.prog 158 = some (.nilp) := by kernel_rfl
attribute [go_sem] Proofs.Try.underlying0 Proofs.Try.underlying1 Proofs.Try.underlying2 Proofs.Try.underlying3 Proofs.Try.underlying4 Proofs.Try.underlying5 Proofs.Try.underlying6 Proofs.Try.underlying7 Proofs.Try.underlying8 Proofs.Try.underlying9 Proofs.Try.underlying10 Proofs.Try.underlying11 Proofs.Try.underlying12 Proofs.Try.underlying13 Proofs.Try.underlying14 Proofs.Try.underlying15 Proofs.Try.underlying16 Proofs.Try.underlying17 Proofs.Try.underlying18 Proofs.Try.underlying19 Proofs.Try.underlying20 Proofs.Try.underlying21 Proofs.Try.underlying22 Proofs.Try.underlying23 Proofs.Try.underlying24 Proofs.Try.underlying25 Proofs.Try.underlying26 Proofs.Try.underlying27 Proofs.Try.underlying28 Proofs.Try.underlying29 Proofs.Try.underlying30 Proofs.Try.underlying31 Proofs.Try.underlying32 Proofs.Try.underlying33 Proofs.Try.underlying34 Proofs.Try.underlying35 Proofs.Try.underlying36 Proofs.Try.underlying37 Proofs.Try.underlying38 Proofs.Try.underlying39 Proofs.Try.underlying40 Proofs.Try.underlying41 Proofs.Try.underlying42 Proofs.Try.underlying43 Proofs.Try.underlying44 Proofs.Try.underlying45 Proofs.Try.underlying46 Proofs.Try.underlying47 Proofs.Try.underlying48 Proofs.Try.underlying49 Proofs.Try.underlying50 Proofs.Try.underlying51 Proofs.Try.underlying52 Proofs.Try.underlying53 Proofs.Try.underlying54 Proofs.Try.underlying55 Proofs.Try.underlying56 Proofs.Try.underlying57 Proofs.Try.underlying58 Proofs.Try.underlying59 Proofs.Try.underlying60 Proofs.Try.underlying61 Proofs.Try.underlying62 Proofs.Try.underlying63 Proofs.Try.underlying64 Proofs.Try.underlying65 Proofs.Try.underlying66 Proofs.Try.underlying67 Proofs.Try.underlying68 Proofs.Try.underlying69 Proofs.Try.underlying70 Proofs.Try.underlying71 Proofs.Try.underlying72 Proofs.Try.underlying73 Proofs.Try.underlying74 Proofs.Try.underlying75 Proofs.Try.underlying76 Proofs.Try.underlying77 Proofs.Try.underlying78 Proofs.Try.underlying79 Proofs.Try.underlying80 Proofs.Try.underlying81 Proofs.Try.underlying82 Proofs.Try.underlying83 Proofs.Try.underlying84 Proofs.Try.underlying85 Proofs.Try.underlying86 Proofs.Try.underlying87 Proofs.Try.underlying88 Proofs.Try.underlying89 Proofs.Try.underlying90 Proofs.Try.underlying91 Proofs.Try.underlying92 Proofs.Try.underlying93 Proofs.Try.underlying94 Proofs.Try.underlying95 Proofs.Try.underlying96 Proofs.Try.underlying97 Proofs.Try.underlying98 Proofs.Try.underlying99 Proofs.Try.underlying100 Proofs.Try.underlying101 Proofs.Try.underlying102 Proofs.Try.underlying103 Proofs.Try.underlying104 Proofs.Try.underlying105 Proofs.Try.underlying106 Proofs.Try.underlying107 Proofs.Try.underlying108 Proofs.Try.underlying109 Proofs.Try.underlying110 Proofs.Try.underlying111 Proofs.Try.underlying112 Proofs.Try.underlying113 Proofs.Try.underlying114 Proofs.Try.underlying115 Proofs.Try.underlying116 Proofs.Try.underlying117 Proofs.Try.underlying118 Proofs.Try.underlying119 Proofs.Try.underlying120 Proofs.Try.underlying121 Proofs.Try.underlying122 Proofs.Try.underlying123 Proofs.Try.underlying124 Proofs.Try.underlying125 Proofs.Try.underlying126 Proofs.Try.underlying127 Proofs.Try.underlying128 Proofs.Try.underlying129 Proofs.Try.underlying130 Proofs.Try.underlying131 Proofs.Try.underlying132 Proofs.Try.underlying133 Proofs.Try.underlying134 Proofs.Try.underlying135 Proofs.Try.underlying136 Proofs.Try.underlying137 Proofs.Try.underlying138 Proofs.Try.underlying139 Proofs.Try.underlying140 Proofs.Try.underlying141 Proofs.Try.underlying142 Proofs.Try.underlying143 Proofs.Try.underlying144 Proofs.Try.underlying145 Proofs.Try.underlying146 Proofs.Try.underlying147 Proofs.Try.underlying148 Proofs.Try.underlying149 Proofs.Try.underlying150 Proofs.Try.underlying151 Proofs.Try.underlying152 Proofs.Try.underlying153 Proofs.Try.underlying154 Proofs.Try.underlying155 Proofs.Try.underlying156 Proofs.Try.underlying157 Proofs.Try.underlying158
end Go.Fly.Try
