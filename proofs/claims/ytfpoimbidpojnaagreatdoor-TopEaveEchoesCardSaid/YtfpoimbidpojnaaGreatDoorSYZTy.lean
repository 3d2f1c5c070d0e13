/- MADE BY PROGRAM (gentypes.py): closed facts of the program's types. -/
import Derived.Test.YtfpoimbidpojnaaGreatDoorAE
import Derived.Test.YtfpoimbidpojnaaGreatDoorProg
import Derived.KernelRfl
set_option linter.unusedSimpArgs false
set_option linter.unusedVariables false
namespace Go.Fly.Tryz
open Go
@[go_sem] theorem tsz1 : tsz Proofs.Tryz.prog 1 = 1 := by kernel_rfl
@[go_sem] theorem tagg1 : tagg Proofs.Tryz.prog 1 = some false := by kernel_rfl
@[go_sem] theorem tby1 : tby Proofs.Tryz.prog 1 = 8 := by kernel_rfl
@[go_sem] theorem tzero1 : tzero Proofs.Tryz.prog 1 = some (.nilfn) := by kernel_rfl
@[go_sem] theorem tsz2 : tsz Proofs.Tryz.prog 2 = 1 := by kernel_rfl
@[go_sem] theorem tagg2 : tagg Proofs.Tryz.prog 2 = some false := by kernel_rfl
@[go_sem] theorem tby2 : tby Proofs.Tryz.prog 2 = 8 := by kernel_rfl
@[go_sem] theorem tzero2 : tzero Proofs.Tryz.prog 2 = some (.int .i64 0) := by kernel_rfl
@[go_sem] theorem tsz3 : tsz Proofs.Tryz.prog 3 = 1 := by kernel_rfl
@[go_sem] theorem tagg3 : tagg Proofs.Tryz.prog 3 = some false := by kernel_rfl
@[go_sem] theorem tby3 : tby Proofs.Tryz.prog 3 = 8 := by kernel_rfl
@[go_sem] theorem tzero3 : tzero Proofs.Tryz.prog 3 = some (.int .i64 0) := by kernel_rfl
@[go_sem] theorem tsz4 : tsz Proofs.Tryz.prog 4 = 1 := by kernel_rfl
@[go_sem] theorem tagg4 : tagg Proofs.Tryz.prog 4 = some false := by kernel_rfl
@[go_sem] theorem tby4 : tby Proofs.Tryz.prog 4 = 1 := by kernel_rfl
@[go_sem] theorem tzero4 : tzero Proofs.Tryz.prog 4 = some (.bool false) := by kernel_rfl
@[go_sem] theorem tsz5 : tsz Proofs.Tryz.prog 5 = 1 := by kernel_rfl
@[go_sem] theorem tagg5 : tagg Proofs.Tryz.prog 5 = some false := by kernel_rfl
@[go_sem] theorem tby5 : tby Proofs.Tryz.prog 5 = 1 := by kernel_rfl
@[go_sem] theorem tzero5 : tzero Proofs.Tryz.prog 5 = some (.int .u8 0) := by kernel_rfl
@[go_sem] theorem tsz6 : tsz Proofs.Tryz.prog 6 = 1 := by kernel_rfl
@[go_sem] theorem tagg6 : tagg Proofs.Tryz.prog 6 = some false := by kernel_rfl
@[go_sem] theorem tby6 : tby Proofs.Tryz.prog 6 = 1 := by kernel_rfl
@[go_sem] theorem tzero6 : tzero Proofs.Tryz.prog 6 = some (.int .u8 0) := by kernel_rfl
@[go_sem] theorem tsz7 : tsz Proofs.Tryz.prog 7 = 4 := by kernel_rfl
@[go_sem] theorem tagg7 : tagg Proofs.Tryz.prog 7 = some true := by kernel_rfl
@[go_sem] theorem tby7 : tby Proofs.Tryz.prog 7 = 24 := by kernel_rfl
@[go_sem] theorem tzero7 : tzero Proofs.Tryz.prog 7 = some (.agg [.int .i64 0, .int .i64 0, .bool false, .int .u8 0]) := by kernel_rfl
@[go_sem] theorem tsz8 : tsz Proofs.Tryz.prog 8 = 4 := by kernel_rfl
@[go_sem] theorem tagg8 : tagg Proofs.Tryz.prog 8 = some true := by kernel_rfl
@[go_sem] theorem tby8 : tby Proofs.Tryz.prog 8 = 24 := by kernel_rfl
@[go_sem] theorem tzero8 : tzero Proofs.Tryz.prog 8 = some (.agg [.int .i64 0, .int .i64 0, .bool false, .int .u8 0]) := by kernel_rfl
@[go_sem] theorem tsz9 : tsz Proofs.Tryz.prog 9 = 1 := by kernel_rfl
@[go_sem] theorem tagg9 : tagg Proofs.Tryz.prog 9 = some false := by kernel_rfl
@[go_sem] theorem tby9 : tby Proofs.Tryz.prog 9 = 16 := by kernel_rfl
@[go_sem] theorem tzero9 : tzero Proofs.Tryz.prog 9 = some (.str []) := by kernel_rfl
@[go_sem] theorem tsz10 : tsz Proofs.Tryz.prog 10 = 1 := by kernel_rfl
@[go_sem] theorem tagg10 : tagg Proofs.Tryz.prog 10 = some false := by kernel_rfl
@[go_sem] theorem tby10 : tby Proofs.Tryz.prog 10 = 16 := by kernel_rfl
@[go_sem] theorem tzero10 : tzero Proofs.Tryz.prog 10 = some (.str []) := by kernel_rfl
@[go_sem] theorem tsz11 : tsz Proofs.Tryz.prog 11 = 1 := by kernel_rfl
@[go_sem] theorem tagg11 : tagg Proofs.Tryz.prog 11 = some false := by kernel_rfl
@[go_sem] theorem tby11 : tby Proofs.Tryz.prog 11 = 16 := by kernel_rfl
@[go_sem] theorem tzero11 : tzero Proofs.Tryz.prog 11 = some (.str []) := by kernel_rfl
@[go_sem] theorem tsz12 : tsz Proofs.Tryz.prog 12 = 1 := by kernel_rfl
@[go_sem] theorem tagg12 : tagg Proofs.Tryz.prog 12 = some false := by kernel_rfl
@[go_sem] theorem tby12 : tby Proofs.Tryz.prog 12 = 8 := by kernel_rfl
@[go_sem] theorem tzero12 : tzero Proofs.Tryz.prog 12 = some (.int .u64 0) := by kernel_rfl
@[go_sem] theorem tsz16 : tsz Proofs.Tryz.prog 16 = 1 := by kernel_rfl
@[go_sem] theorem tagg16 : tagg Proofs.Tryz.prog 16 = some false := by kernel_rfl
@[go_sem] theorem tby16 : tby Proofs.Tryz.prog 16 = 8 := by kernel_rfl
@[go_sem] theorem tzero16 : tzero Proofs.Tryz.prog 16 = some (.nilp) := by kernel_rfl
@[go_sem] theorem tsz17 : tsz Proofs.Tryz.prog 17 = 1 := by kernel_rfl
@[go_sem] theorem tagg17 : tagg Proofs.Tryz.prog 17 = some false := by kernel_rfl
@[go_sem] theorem tby17 : tby Proofs.Tryz.prog 17 = 8 := by kernel_rfl
@[go_sem] theorem tzero17 : tzero Proofs.Tryz.prog 17 = some (.nilp) := by kernel_rfl
@[go_sem] theorem tsz21 : tsz Proofs.Tryz.prog 21 = 1 := by kernel_rfl
@[go_sem] theorem tagg21 : tagg Proofs.Tryz.prog 21 = some false := by kernel_rfl
@[go_sem] theorem tby21 : tby Proofs.Tryz.prog 21 = 4 := by kernel_rfl
@[go_sem] theorem tzero21 : tzero Proofs.Tryz.prog 21 = some (.int .i32 0) := by kernel_rfl
@[go_sem] theorem tsz22 : tsz Proofs.Tryz.prog 22 = 1 := by kernel_rfl
@[go_sem] theorem tagg22 : tagg Proofs.Tryz.prog 22 = some false := by kernel_rfl
@[go_sem] theorem tby22 : tby Proofs.Tryz.prog 22 = 24 := by kernel_rfl
@[go_sem] theorem tzero22 : tzero Proofs.Tryz.prog 22 = some (.nils) := by kernel_rfl
@[go_sem] theorem tsz23 : tsz Proofs.Tryz.prog 23 = 1 := by kernel_rfl
@[go_sem] theorem tagg23 : tagg Proofs.Tryz.prog 23 = some false := by kernel_rfl
@[go_sem] theorem tby23 : tby Proofs.Tryz.prog 23 = 24 := by kernel_rfl
@[go_sem] theorem tzero23 : tzero Proofs.Tryz.prog 23 = some (.nils) := by kernel_rfl
@[go_sem] theorem tsz24 : tsz Proofs.Tryz.prog 24 = 1 := by kernel_rfl
@[go_sem] theorem tagg24 : tagg Proofs.Tryz.prog 24 = some false := by kernel_rfl
@[go_sem] theorem tby24 : tby Proofs.Tryz.prog 24 = 24 := by kernel_rfl
@[go_sem] theorem tzero24 : tzero Proofs.Tryz.prog 24 = some (.nils) := by kernel_rfl
@[go_sem] theorem tsz25 : tsz Proofs.Tryz.prog 25 = 3 := by kernel_rfl
@[go_sem] theorem tagg25 : tagg Proofs.Tryz.prog 25 = some true := by kernel_rfl
@[go_sem] theorem tby25 : tby Proofs.Tryz.prog 25 = 24 := by kernel_rfl
@[go_sem] theorem tzero25 : tzero Proofs.Tryz.prog 25 = some (.agg [.int .i64 0, .int .i64 0, .int .i64 0]) := by kernel_rfl
@[go_sem] theorem tsz26 : tsz Proofs.Tryz.prog 26 = 3 := by kernel_rfl
@[go_sem] theorem tagg26 : tagg Proofs.Tryz.prog 26 = some true := by kernel_rfl
@[go_sem] theorem tby26 : tby Proofs.Tryz.prog 26 = 24 := by kernel_rfl
@[go_sem] theorem tzero26 : tzero Proofs.Tryz.prog 26 = some (.agg [.int .i64 0, .int .i64 0, .int .i64 0]) := by kernel_rfl
@[go_sem] theorem tsz27 : tsz Proofs.Tryz.prog 27 = 10 := by kernel_rfl
@[go_sem] theorem tagg27 : tagg Proofs.Tryz.prog 27 = some true := by kernel_rfl
@[go_sem] theorem tby27 : tby Proofs.Tryz.prog 27 = 128 := by kernel_rfl
@[go_sem] theorem tzero27 : tzero Proofs.Tryz.prog 27 = some (.agg [.nils, .nils, .nils, .int .i64 0, .int .i64 0, .int .i64 0, .int .i64 0, .int .i64 0, .int .i64 0, .int .i64 0]) := by kernel_rfl
@[go_sem] theorem tsz28 : tsz Proofs.Tryz.prog 28 = 10 := by kernel_rfl
@[go_sem] theorem tagg28 : tagg Proofs.Tryz.prog 28 = some true := by kernel_rfl
@[go_sem] theorem tby28 : tby Proofs.Tryz.prog 28 = 128 := by kernel_rfl
@[go_sem] theorem tzero28 : tzero Proofs.Tryz.prog 28 = some (.agg [.nils, .nils, .nils, .int .i64 0, .int .i64 0, .int .i64 0, .int .i64 0, .int .i64 0, .int .i64 0, .int .i64 0]) := by kernel_rfl
@[go_sem] theorem tsz29 : tsz Proofs.Tryz.prog 29 = 1 := by kernel_rfl
@[go_sem] theorem tagg29 : tagg Proofs.Tryz.prog 29 = some false := by kernel_rfl
@[go_sem] theorem tby29 : tby Proofs.Tryz.prog 29 = 8 := by kernel_rfl
@[go_sem] theorem tzero29 : tzero Proofs.Tryz.prog 29 = some (.nilfn) := by kernel_rfl
@[go_sem] theorem tsz31 : tsz Proofs.Tryz.prog 31 = 6 := by kernel_rfl
@[go_sem] theorem tagg31 : tagg Proofs.Tryz.prog 31 = some true := by kernel_rfl
@[go_sem] theorem tby31 : tby Proofs.Tryz.prog 31 = 48 := by kernel_rfl
@[go_sem] theorem tzero31 : tzero Proofs.Tryz.prog 31 = some (.agg [.int .i64 0, .int .i64 0, .int .i64 0, .int .i64 0, .int .i64 0, .int .i64 0]) := by kernel_rfl
@[go_sem] theorem tsz32 : tsz Proofs.Tryz.prog 32 = 6 := by kernel_rfl
@[go_sem] theorem tagg32 : tagg Proofs.Tryz.prog 32 = some true := by kernel_rfl
@[go_sem] theorem tby32 : tby Proofs.Tryz.prog 32 = 48 := by kernel_rfl
@[go_sem] theorem tzero32 : tzero Proofs.Tryz.prog 32 = some (.agg [.int .i64 0, .int .i64 0, .int .i64 0, .int .i64 0, .int .i64 0, .int .i64 0]) := by kernel_rfl
@[go_sem] theorem tsz33 : tsz Proofs.Tryz.prog 33 = 2 := by kernel_rfl
@[go_sem] theorem tagg33 : tagg Proofs.Tryz.prog 33 = some true := by kernel_rfl
@[go_sem] theorem tby33 : tby Proofs.Tryz.prog 33 = 16 := by kernel_rfl
@[go_sem] theorem tzero33 : tzero Proofs.Tryz.prog 33 = some (.agg [.int .i64 0, .int .i64 0]) := by kernel_rfl
@[go_sem] theorem tsz34 : tsz Proofs.Tryz.prog 34 = 2 := by kernel_rfl
@[go_sem] theorem tagg34 : tagg Proofs.Tryz.prog 34 = some true := by kernel_rfl
@[go_sem] theorem tby34 : tby Proofs.Tryz.prog 34 = 16 := by kernel_rfl
@[go_sem] theorem tzero34 : tzero Proofs.Tryz.prog 34 = some (.agg [.int .i64 0, .int .i64 0]) := by kernel_rfl
@[go_sem] theorem tsz35 : tsz Proofs.Tryz.prog 35 = 1 := by kernel_rfl
@[go_sem] theorem tagg35 : tagg Proofs.Tryz.prog 35 = some false := by kernel_rfl
@[go_sem] theorem tby35 : tby Proofs.Tryz.prog 35 = 8 := by kernel_rfl
@[go_sem] theorem tzero35 : tzero Proofs.Tryz.prog 35 = some (.int .i64 0) := by kernel_rfl
@[go_sem] theorem tsz39 : tsz Proofs.Tryz.prog 39 = 1 := by kernel_rfl
@[go_sem] theorem tagg39 : tagg Proofs.Tryz.prog 39 = some false := by kernel_rfl
@[go_sem] theorem tby39 : tby Proofs.Tryz.prog 39 = 8 := by kernel_rfl
@[go_sem] theorem tzero39 : tzero Proofs.Tryz.prog 39 = some (.nilfn) := by kernel_rfl
@[go_sem] theorem tsz40 : tsz Proofs.Tryz.prog 40 = 1 := by kernel_rfl
@[go_sem] theorem tagg40 : tagg Proofs.Tryz.prog 40 = some false := by kernel_rfl
@[go_sem] theorem tby40 : tby Proofs.Tryz.prog 40 = 24 := by kernel_rfl
@[go_sem] theorem tzero40 : tzero Proofs.Tryz.prog 40 = some (.nils) := by kernel_rfl
@[go_sem] theorem tsz43 : tsz Proofs.Tryz.prog 43 = 1 := by kernel_rfl
@[go_sem] theorem tagg43 : tagg Proofs.Tryz.prog 43 = some false := by kernel_rfl
@[go_sem] theorem tby43 : tby Proofs.Tryz.prog 43 = 24 := by kernel_rfl
@[go_sem] theorem tzero43 : tzero Proofs.Tryz.prog 43 = some (.nils) := by kernel_rfl
@[go_sem] theorem tsz45 : tsz Proofs.Tryz.prog 45 = 1 := by kernel_rfl
@[go_sem] theorem tagg45 : tagg Proofs.Tryz.prog 45 = some false := by kernel_rfl
@[go_sem] theorem tby45 : tby Proofs.Tryz.prog 45 = 24 := by kernel_rfl
@[go_sem] theorem tzero45 : tzero Proofs.Tryz.prog 45 = some (.nils) := by kernel_rfl
@[go_sem] theorem tsz48 : tsz Proofs.Tryz.prog 48 = 1 := by kernel_rfl
@[go_sem] theorem tagg48 : tagg Proofs.Tryz.prog 48 = some false := by kernel_rfl
@[go_sem] theorem tby48 : tby Proofs.Tryz.prog 48 = 24 := by kernel_rfl
@[go_sem] theorem tzero48 : tzero Proofs.Tryz.prog 48 = some (.nils) := by kernel_rfl
@[go_sem] theorem tsz50 : tsz Proofs.Tryz.prog 50 = 2 := by kernel_rfl
@[go_sem] theorem tagg50 : tagg Proofs.Tryz.prog 50 = some true := by kernel_rfl
@[go_sem] theorem tby50 : tby Proofs.Tryz.prog 50 = 16 := by kernel_rfl
@[go_sem] theorem tzero50 : tzero Proofs.Tryz.prog 50 = some (.agg [.int .i64 0, .int .i64 0]) := by kernel_rfl
@[go_sem] theorem tsz51 : tsz Proofs.Tryz.prog 51 = 2 := by kernel_rfl
@[go_sem] theorem tagg51 : tagg Proofs.Tryz.prog 51 = some true := by kernel_rfl
@[go_sem] theorem tby51 : tby Proofs.Tryz.prog 51 = 16 := by kernel_rfl
@[go_sem] theorem tzero51 : tzero Proofs.Tryz.prog 51 = some (.agg [.int .i64 0, .int .i64 0]) := by kernel_rfl
@[go_sem] theorem tsz52 : tsz Proofs.Tryz.prog 52 = 5 := by kernel_rfl
@[go_sem] theorem tagg52 : tagg Proofs.Tryz.prog 52 = some true := by kernel_rfl
@[go_sem] theorem tby52 : tby Proofs.Tryz.prog 52 = 56 := by kernel_rfl
@[go_sem] theorem tzero52 : tzero Proofs.Tryz.prog 52 = some (.agg [.int .i64 0, .int .i64 0, .int .i64 0, .int .i64 0, .nils]) := by kernel_rfl
@[go_sem] theorem tsz53 : tsz Proofs.Tryz.prog 53 = 5 := by kernel_rfl
@[go_sem] theorem tagg53 : tagg Proofs.Tryz.prog 53 = some true := by kernel_rfl
@[go_sem] theorem tby53 : tby Proofs.Tryz.prog 53 = 56 := by kernel_rfl
@[go_sem] theorem tzero53 : tzero Proofs.Tryz.prog 53 = some (.agg [.int .i64 0, .int .i64 0, .int .i64 0, .int .i64 0, .nils]) := by kernel_rfl
@[go_sem] theorem tsz54 : tsz Proofs.Tryz.prog 54 = 2 := by kernel_rfl
@[go_sem] theorem tagg54 : tagg Proofs.Tryz.prog 54 = some true := by kernel_rfl
@[go_sem] theorem tby54 : tby Proofs.Tryz.prog 54 = 16 := by kernel_rfl
@[go_sem] theorem tzero54 : tzero Proofs.Tryz.prog 54 = some (.agg [.int .i64 0, .int .i64 0]) := by kernel_rfl
@[go_sem] theorem tsz55 : tsz Proofs.Tryz.prog 55 = 2 := by kernel_rfl
@[go_sem] theorem tagg55 : tagg Proofs.Tryz.prog 55 = some true := by kernel_rfl
@[go_sem] theorem tby55 : tby Proofs.Tryz.prog 55 = 16 := by kernel_rfl
@[go_sem] theorem tzero55 : tzero Proofs.Tryz.prog 55 = some (.agg [.int .i64 0, .int .i64 0]) := by kernel_rfl
@[go_sem] theorem tsz56 : tsz Proofs.Tryz.prog 56 = 11 := by kernel_rfl
@[go_sem] theorem tagg56 : tagg Proofs.Tryz.prog 56 = some true := by kernel_rfl
@[go_sem] theorem tby56 : tby Proofs.Tryz.prog 56 = 88 := by kernel_rfl
@[go_sem] theorem tzero56 : tzero Proofs.Tryz.prog 56 = some (.agg [.int .i64 0, .int .i64 0, .int .i64 0, .int .i64 0, .int .i64 0, .int .i64 0, .int .i64 0, .int .i64 0, .int .i64 0, .int .i64 0, .int .i64 0]) := by kernel_rfl
@[go_sem] theorem tsz57 : tsz Proofs.Tryz.prog 57 = 11 := by kernel_rfl
@[go_sem] theorem tagg57 : tagg Proofs.Tryz.prog 57 = some true := by kernel_rfl
@[go_sem] theorem tby57 : tby Proofs.Tryz.prog 57 = 88 := by kernel_rfl
@[go_sem] theorem tzero57 : tzero Proofs.Tryz.prog 57 = some (.agg [.int .i64 0, .int .i64 0, .int .i64 0, .int .i64 0, .int .i64 0, .int .i64 0, .int .i64 0, .int .i64 0, .int .i64 0, .int .i64 0, .int .i64 0]) := by kernel_rfl
@[go_sem] theorem tsz59 : tsz Proofs.Tryz.prog 59 = 7 := by kernel_rfl
@[go_sem] theorem tagg59 : tagg Proofs.Tryz.prog 59 = some true := by kernel_rfl
@[go_sem] theorem tby59 : tby Proofs.Tryz.prog 59 = 64 := by kernel_rfl
@[go_sem] theorem tzero59 : tzero Proofs.Tryz.prog 59 = some (.agg [.str [], .int .i64 0, .int .i64 0, .int .i64 0, .int .i64 0, .int .i64 0, .int .i64 0]) := by kernel_rfl
@[go_sem] theorem tsz60 : tsz Proofs.Tryz.prog 60 = 7 := by kernel_rfl
@[go_sem] theorem tagg60 : tagg Proofs.Tryz.prog 60 = some true := by kernel_rfl
@[go_sem] theorem tby60 : tby Proofs.Tryz.prog 60 = 64 := by kernel_rfl
@[go_sem] theorem tzero60 : tzero Proofs.Tryz.prog 60 = some (.agg [.str [], .int .i64 0, .int .i64 0, .int .i64 0, .int .i64 0, .int .i64 0, .int .i64 0]) := by kernel_rfl
@[go_sem] theorem tsz62 : tsz Proofs.Tryz.prog 62 = 2 := by kernel_rfl
@[go_sem] theorem tagg62 : tagg Proofs.Tryz.prog 62 = some true := by kernel_rfl
@[go_sem] theorem tby62 : tby Proofs.Tryz.prog 62 = 16 := by kernel_rfl
@[go_sem] theorem tzero62 : tzero Proofs.Tryz.prog 62 = some (.agg [.int .i64 0, .int .i64 0]) := by kernel_rfl
@[go_sem] theorem tsz63 : tsz Proofs.Tryz.prog 63 = 2 := by kernel_rfl
@[go_sem] theorem tagg63 : tagg Proofs.Tryz.prog 63 = some true := by kernel_rfl
@[go_sem] theorem tby63 : tby Proofs.Tryz.prog 63 = 16 := by kernel_rfl
@[go_sem] theorem tzero63 : tzero Proofs.Tryz.prog 63 = some (.agg [.int .i64 0, .int .i64 0]) := by kernel_rfl
@[go_sem] theorem tsz64 : tsz Proofs.Tryz.prog 64 = 1 := by kernel_rfl
@[go_sem] theorem tagg64 : tagg Proofs.Tryz.prog 64 = some false := by kernel_rfl
@[go_sem] theorem tby64 : tby Proofs.Tryz.prog 64 = 24 := by kernel_rfl
@[go_sem] theorem tzero64 : tzero Proofs.Tryz.prog 64 = some (.nils) := by kernel_rfl
@[go_sem] theorem tsz65 : tsz Proofs.Tryz.prog 65 = 6 := by kernel_rfl
@[go_sem] theorem tagg65 : tagg Proofs.Tryz.prog 65 = some true := by kernel_rfl
@[go_sem] theorem tby65 : tby Proofs.Tryz.prog 65 = 48 := by kernel_rfl
@[go_sem] theorem tzero65 : tzero Proofs.Tryz.prog 65 = some (.agg [.int .i64 0, .int .i64 0, .int .i64 0, .int .i64 0, .int .i64 0, .int .i64 0]) := by kernel_rfl
@[go_sem] theorem tsz67 : tsz Proofs.Tryz.prog 67 = 5 := by kernel_rfl
@[go_sem] theorem tagg67 : tagg Proofs.Tryz.prog 67 = some true := by kernel_rfl
@[go_sem] theorem tby67 : tby Proofs.Tryz.prog 67 = 56 := by kernel_rfl
@[go_sem] theorem tzero67 : tzero Proofs.Tryz.prog 67 = some (.agg [.int .i64 0, .int .i64 0, .int .i64 0, .int .i64 0, .nils]) := by kernel_rfl
@[go_sem] theorem tsz68 : tsz Proofs.Tryz.prog 68 = 1 := by kernel_rfl
@[go_sem] theorem tagg68 : tagg Proofs.Tryz.prog 68 = some false := by kernel_rfl
@[go_sem] theorem tby68 : tby Proofs.Tryz.prog 68 = 24 := by kernel_rfl
@[go_sem] theorem tzero68 : tzero Proofs.Tryz.prog 68 = some (.nils) := by kernel_rfl
@[go_sem] theorem tsz77 : tsz Proofs.Tryz.prog 77 = 2 := by kernel_rfl
@[go_sem] theorem tagg77 : tagg Proofs.Tryz.prog 77 = some true := by kernel_rfl
@[go_sem] theorem tby77 : tby Proofs.Tryz.prog 77 = 16 := by kernel_rfl
@[go_sem] theorem tzero77 : tzero Proofs.Tryz.prog 77 = some (.agg [.int .i64 0, .int .i64 0]) := by kernel_rfl
@[go_sem] theorem tsz78 : tsz Proofs.Tryz.prog 78 = 4 := by kernel_rfl
@[go_sem] theorem tagg78 : tagg Proofs.Tryz.prog 78 = some true := by kernel_rfl
@[go_sem] theorem tby78 : tby Proofs.Tryz.prog 78 = 32 := by kernel_rfl
@[go_sem] theorem tzero78 : tzero Proofs.Tryz.prog 78 = some (.agg [.int .i64 0, .int .i64 0, .int .i64 0, .int .i64 0]) := by kernel_rfl
@[go_sem] theorem tsz79 : tsz Proofs.Tryz.prog 79 = 6 := by kernel_rfl
@[go_sem] theorem tagg79 : tagg Proofs.Tryz.prog 79 = some true := by kernel_rfl
@[go_sem] theorem tby79 : tby Proofs.Tryz.prog 79 = 48 := by kernel_rfl
@[go_sem] theorem tzero79 : tzero Proofs.Tryz.prog 79 = some (.agg [.int .i64 0, .int .i64 0, .int .i64 0, .int .i64 0, .int .i64 0, .int .i64 0]) := by kernel_rfl
@[go_sem] theorem tsz80 : tsz Proofs.Tryz.prog 80 = 6 := by kernel_rfl
@[go_sem] theorem tagg80 : tagg Proofs.Tryz.prog 80 = some true := by kernel_rfl
@[go_sem] theorem tby80 : tby Proofs.Tryz.prog 80 = 48 := by kernel_rfl
@[go_sem] theorem tzero80 : tzero Proofs.Tryz.prog 80 = some (.agg [.int .i64 0, .int .i64 0, .int .i64 0, .int .i64 0, .int .i64 0, .int .i64 0]) := by kernel_rfl
@[go_sem] theorem tsz81 : tsz Proofs.Tryz.prog 81 = 1 := by kernel_rfl
@[go_sem] theorem tagg81 : tagg Proofs.Tryz.prog 81 = some false := by kernel_rfl
@[go_sem] theorem tby81 : tby Proofs.Tryz.prog 81 = 8 := by kernel_rfl
@[go_sem] theorem tzero81 : tzero Proofs.Tryz.prog 81 = some (.nilfn) := by kernel_rfl
@[go_sem] theorem tsz88 : tsz Proofs.Tryz.prog 88 = 1 := by kernel_rfl
@[go_sem] theorem tagg88 : tagg Proofs.Tryz.prog 88 = some false := by kernel_rfl
@[go_sem] theorem tby88 : tby Proofs.Tryz.prog 88 = 8 := by kernel_rfl
@[go_sem] theorem tzero88 : tzero Proofs.Tryz.prog 88 = some (.nilfn) := by kernel_rfl
@[go_sem] theorem tsz89 : tsz Proofs.Tryz.prog 89 = 1 := by kernel_rfl
@[go_sem] theorem tagg89 : tagg Proofs.Tryz.prog 89 = some false := by kernel_rfl
@[go_sem] theorem tby89 : tby Proofs.Tryz.prog 89 = 8 := by kernel_rfl
@[go_sem] theorem tzero89 : tzero Proofs.Tryz.prog 89 = some (.nilfn) := by kernel_rfl
@[go_sem] theorem tsz91 : tsz Proofs.Tryz.prog 91 = 7 := by kernel_rfl
@[go_sem] theorem tagg91 : tagg Proofs.Tryz.prog 91 = some true := by kernel_rfl
@[go_sem] theorem tby91 : tby Proofs.Tryz.prog 91 = 64 := by kernel_rfl
@[go_sem] theorem tzero91 : tzero Proofs.Tryz.prog 91 = some (.agg [.str [], .int .i64 0, .int .i64 0, .int .i64 0, .int .i64 0, .int .i64 0, .int .i64 0]) := by kernel_rfl
@[go_sem] theorem tsz94 : tsz Proofs.Tryz.prog 94 = 1 := by kernel_rfl
@[go_sem] theorem tagg94 : tagg Proofs.Tryz.prog 94 = some false := by kernel_rfl
@[go_sem] theorem tby94 : tby Proofs.Tryz.prog 94 = 8 := by kernel_rfl
@[go_sem] theorem tzero94 : tzero Proofs.Tryz.prog 94 = some (.nilfn) := by kernel_rfl
@[go_sem] theorem tsz101 : tsz Proofs.Tryz.prog 101 = 2 := by kernel_rfl
@[go_sem] theorem tagg101 : tagg Proofs.Tryz.prog 101 = some true := by kernel_rfl
@[go_sem] theorem tby101 : tby Proofs.Tryz.prog 101 = 16 := by kernel_rfl
@[go_sem] theorem tzero101 : tzero Proofs.Tryz.prog 101 = some (.agg [.int .i64 0, .int .i64 0]) := by kernel_rfl
@[go_sem] theorem tsz106 : tsz Proofs.Tryz.prog 106 = 1 := by kernel_rfl
@[go_sem] theorem tagg106 : tagg Proofs.Tryz.prog 106 = some false := by kernel_rfl
@[go_sem] theorem tby106 : tby Proofs.Tryz.prog 106 = 8 := by kernel_rfl
@[go_sem] theorem tzero106 : tzero Proofs.Tryz.prog 106 = some (.nilfn) := by kernel_rfl
@[go_sem] theorem tsz107 : tsz Proofs.Tryz.prog 107 = 1 := by kernel_rfl
@[go_sem] theorem tagg107 : tagg Proofs.Tryz.prog 107 = some false := by kernel_rfl
@[go_sem] theorem tby107 : tby Proofs.Tryz.prog 107 = 8 := by kernel_rfl
@[go_sem] theorem tzero107 : tzero Proofs.Tryz.prog 107 = some (.nilfn) := by kernel_rfl
@[go_sem] theorem tsz108 : tsz Proofs.Tryz.prog 108 = 1 := by kernel_rfl
@[go_sem] theorem tagg108 : tagg Proofs.Tryz.prog 108 = some false := by kernel_rfl
@[go_sem] theorem tby108 : tby Proofs.Tryz.prog 108 = 24 := by kernel_rfl
@[go_sem] theorem tzero108 : tzero Proofs.Tryz.prog 108 = some (.nils) := by kernel_rfl
@[go_sem] theorem tsz109 : tsz Proofs.Tryz.prog 109 = 1 := by kernel_rfl
@[go_sem] theorem tagg109 : tagg Proofs.Tryz.prog 109 = some false := by kernel_rfl
@[go_sem] theorem tby109 : tby Proofs.Tryz.prog 109 = 8 := by kernel_rfl
@[go_sem] theorem tsz110 : tsz Proofs.Tryz.prog 110 = 1 := by kernel_rfl
@[go_sem] theorem tagg110 : tagg Proofs.Tryz.prog 110 = some false := by kernel_rfl
@[go_sem] theorem tby110 : tby Proofs.Tryz.prog 110 = 8 := by kernel_rfl
@[go_sem] theorem tzero110 : tzero Proofs.Tryz.prog 110 = some (.nilfn) := by kernel_rfl
@[go_sem] theorem tsz112 : tsz Proofs.Tryz.prog 112 = 1 := by kernel_rfl
@[go_sem] theorem tagg112 : tagg Proofs.Tryz.prog 112 = some false := by kernel_rfl
@[go_sem] theorem tby112 : tby Proofs.Tryz.prog 112 = 8 := by kernel_rfl
@[go_sem] theorem tzero112 : tzero Proofs.Tryz.prog 112 = some (.nilfn) := by kernel_rfl
@[go_sem] theorem tsz116 : tsz Proofs.Tryz.prog 116 = 1 := by kernel_rfl
@[go_sem] theorem tagg116 : tagg Proofs.Tryz.prog 116 = some true := by kernel_rfl
@[go_sem] theorem tby116 : tby Proofs.Tryz.prog 116 = 8 := by kernel_rfl
@[go_sem] theorem tzero116 : tzero Proofs.Tryz.prog 116 = some (.agg [.nilfn]) := by kernel_rfl
@[go_sem] theorem tsz117 : tsz Proofs.Tryz.prog 117 = 1 := by kernel_rfl
@[go_sem] theorem tagg117 : tagg Proofs.Tryz.prog 117 = some true := by kernel_rfl
@[go_sem] theorem tby117 : tby Proofs.Tryz.prog 117 = 8 := by kernel_rfl
@[go_sem] theorem tzero117 : tzero Proofs.Tryz.prog 117 = some (.agg [.nilfn]) := by kernel_rfl
@[go_sem] theorem tsz120 : tsz Proofs.Tryz.prog 120 = 7 := by kernel_rfl
@[go_sem] theorem tagg120 : tagg Proofs.Tryz.prog 120 = some true := by kernel_rfl
@[go_sem] theorem tby120 : tby Proofs.Tryz.prog 120 = 72 := by kernel_rfl
@[go_sem] theorem tzero120 : tzero Proofs.Tryz.prog 120 = some (.agg [.int .i64 0, .int .i64 0, .int .i64 0, .int .i64 0, .nils, .int .i64 0, .int .i64 0]) := by kernel_rfl
@[go_sem] theorem tsz121 : tsz Proofs.Tryz.prog 121 = 7 := by kernel_rfl
@[go_sem] theorem tagg121 : tagg Proofs.Tryz.prog 121 = some true := by kernel_rfl
@[go_sem] theorem tby121 : tby Proofs.Tryz.prog 121 = 72 := by kernel_rfl
@[go_sem] theorem tzero121 : tzero Proofs.Tryz.prog 121 = some (.agg [.int .i64 0, .int .i64 0, .int .i64 0, .int .i64 0, .nils, .int .i64 0, .int .i64 0]) := by kernel_rfl
@[go_sem] theorem tsz124 : tsz Proofs.Tryz.prog 124 = 1 := by kernel_rfl
@[go_sem] theorem tagg124 : tagg Proofs.Tryz.prog 124 = some false := by kernel_rfl
@[go_sem] theorem tby124 : tby Proofs.Tryz.prog 124 = 8 := by kernel_rfl
@[go_sem] theorem tzero124 : tzero Proofs.Tryz.prog 124 = some (.nilfn) := by kernel_rfl
@[go_sem] theorem tsz125 : tsz Proofs.Tryz.prog 125 = 1 := by kernel_rfl
@[go_sem] theorem tagg125 : tagg Proofs.Tryz.prog 125 = some false := by kernel_rfl
@[go_sem] theorem tby125 : tby Proofs.Tryz.prog 125 = 8 := by kernel_rfl
@[go_sem] theorem tzero125 : tzero Proofs.Tryz.prog 125 = some (.nilfn) := by kernel_rfl
@[go_sem] theorem tsz132 : tsz Proofs.Tryz.prog 132 = 1 := by kernel_rfl
@[go_sem] theorem tagg132 : tagg Proofs.Tryz.prog 132 = some false := by kernel_rfl
@[go_sem] theorem tby132 : tby Proofs.Tryz.prog 132 = 8 := by kernel_rfl
@[go_sem] theorem tzero132 : tzero Proofs.Tryz.prog 132 = some (.nilfn) := by kernel_rfl
@[go_sem] theorem tsz134 : tsz Proofs.Tryz.prog 134 = 1 := by kernel_rfl
@[go_sem] theorem tagg134 : tagg Proofs.Tryz.prog 134 = some false := by kernel_rfl
@[go_sem] theorem tby134 : tby Proofs.Tryz.prog 134 = 8 := by kernel_rfl
@[go_sem] theorem tzero134 : tzero Proofs.Tryz.prog 134 = some (.nilfn) := by kernel_rfl
@[go_sem] theorem tsz137 : tsz Proofs.Tryz.prog 137 = 1 := by kernel_rfl
@[go_sem] theorem tagg137 : tagg Proofs.Tryz.prog 137 = some false := by kernel_rfl
@[go_sem] theorem tby137 : tby Proofs.Tryz.prog 137 = 8 := by kernel_rfl
@[go_sem] theorem tzero137 : tzero Proofs.Tryz.prog 137 = some (.flt .f64 0) := by kernel_rfl
@[go_sem] theorem tsz140 : tsz Proofs.Tryz.prog 140 = 1 := by kernel_rfl
@[go_sem] theorem tagg140 : tagg Proofs.Tryz.prog 140 = some false := by kernel_rfl
@[go_sem] theorem tby140 : tby Proofs.Tryz.prog 140 = 8 := by kernel_rfl
@[go_sem] theorem tzero140 : tzero Proofs.Tryz.prog 140 = some (.nilfn) := by kernel_rfl
@[go_sem] theorem tsz141 : tsz Proofs.Tryz.prog 141 = 3 := by kernel_rfl
@[go_sem] theorem tagg141 : tagg Proofs.Tryz.prog 141 = some true := by kernel_rfl
@[go_sem] theorem tby141 : tby Proofs.Tryz.prog 141 = 24 := by kernel_rfl
@[go_sem] theorem tzero141 : tzero Proofs.Tryz.prog 141 = some (.agg [.nilfn, .int .i64 0, .int .i64 0]) := by kernel_rfl
@[go_sem] theorem tsz142 : tsz Proofs.Tryz.prog 142 = 3 := by kernel_rfl
@[go_sem] theorem tagg142 : tagg Proofs.Tryz.prog 142 = some true := by kernel_rfl
@[go_sem] theorem tby142 : tby Proofs.Tryz.prog 142 = 24 := by kernel_rfl
@[go_sem] theorem tzero142 : tzero Proofs.Tryz.prog 142 = some (.agg [.nilfn, .int .i64 0, .int .i64 0]) := by kernel_rfl
@[go_sem] theorem tsz143 : tsz Proofs.Tryz.prog 143 = 12 := by kernel_rfl
@[go_sem] theorem tagg143 : tagg Proofs.Tryz.prog 143 = some true := by kernel_rfl
@[go_sem] theorem tby143 : tby Proofs.Tryz.prog 143 = 96 := by kernel_rfl
@[go_sem] theorem tzero143 : tzero Proofs.Tryz.prog 143 = some (.agg [.nilfn, .int .i64 0, .int .i64 0, .nilfn, .int .i64 0, .int .i64 0, .nilfn, .int .i64 0, .int .i64 0, .nilfn, .int .i64 0, .int .i64 0]) := by kernel_rfl
@[go_sem] theorem tsz145 : tsz Proofs.Tryz.prog 145 = 1 := by kernel_rfl
@[go_sem] theorem tagg145 : tagg Proofs.Tryz.prog 145 = some false := by kernel_rfl
@[go_sem] theorem tby145 : tby Proofs.Tryz.prog 145 = 8 := by kernel_rfl
@[go_sem] theorem tzero145 : tzero Proofs.Tryz.prog 145 = some (.nilfn) := by kernel_rfl
@[go_sem] theorem tsz146 : tsz Proofs.Tryz.prog 146 = 4 := by kernel_rfl
@[go_sem] theorem tagg146 : tagg Proofs.Tryz.prog 146 = some true := by kernel_rfl
@[go_sem] theorem tby146 : tby Proofs.Tryz.prog 146 = 32 := by kernel_rfl
@[go_sem] theorem tzero146 : tzero Proofs.Tryz.prog 146 = some (.agg [.int .i64 0, .int .i64 0, .int .i64 0, .int .i64 0]) := by kernel_rfl
@[go_sem] theorem tsz147 : tsz Proofs.Tryz.prog 147 = 4 := by kernel_rfl
@[go_sem] theorem tagg147 : tagg Proofs.Tryz.prog 147 = some true := by kernel_rfl
@[go_sem] theorem tby147 : tby Proofs.Tryz.prog 147 = 32 := by kernel_rfl
@[go_sem] theorem tzero147 : tzero Proofs.Tryz.prog 147 = some (.agg [.int .i64 0, .int .i64 0, .int .i64 0, .int .i64 0]) := by kernel_rfl
@[go_sem] theorem tsz149 : tsz Proofs.Tryz.prog 149 = 1 := by kernel_rfl
@[go_sem] theorem tagg149 : tagg Proofs.Tryz.prog 149 = some false := by kernel_rfl
@[go_sem] theorem tby149 : tby Proofs.Tryz.prog 149 = 8 := by kernel_rfl
@[go_sem] theorem tzero149 : tzero Proofs.Tryz.prog 149 = some (.nilfn) := by kernel_rfl
@[go_sem] theorem tsz151 : tsz Proofs.Tryz.prog 151 = 2 := by kernel_rfl
@[go_sem] theorem tagg151 : tagg Proofs.Tryz.prog 151 = some true := by kernel_rfl
@[go_sem] theorem tby151 : tby Proofs.Tryz.prog 151 = 16 := by kernel_rfl
@[go_sem] theorem tzero151 : tzero Proofs.Tryz.prog 151 = some (.agg [.int .i64 0, .int .i64 0]) := by kernel_rfl
@[go_sem] theorem tsz152 : tsz Proofs.Tryz.prog 152 = 2 := by kernel_rfl
@[go_sem] theorem tagg152 : tagg Proofs.Tryz.prog 152 = some true := by kernel_rfl
@[go_sem] theorem tby152 : tby Proofs.Tryz.prog 152 = 16 := by kernel_rfl
@[go_sem] theorem tzero152 : tzero Proofs.Tryz.prog 152 = some (.agg [.int .i64 0, .int .i64 0]) := by kernel_rfl
@[go_sem] theorem tsz154 : tsz Proofs.Tryz.prog 154 = 1 := by kernel_rfl
@[go_sem] theorem tagg154 : tagg Proofs.Tryz.prog 154 = some false := by kernel_rfl
@[go_sem] theorem tby154 : tby Proofs.Tryz.prog 154 = 8 := by kernel_rfl
@[go_sem] theorem tzero154 : tzero Proofs.Tryz.prog 154 = some (.nilfn) := by kernel_rfl
@[go_sem] theorem tsz155 : tsz Proofs.Tryz.prog 155 = 1 := by kernel_rfl
@[go_sem] theorem tagg155 : tagg Proofs.Tryz.prog 155 = some false := by kernel_rfl
@[go_sem] theorem tby155 : tby Proofs.Tryz.prog 155 = 8 := by kernel_rfl
@[go_sem] theorem tzero155 : tzero Proofs.Tryz.prog 155 = some (.nilfn) := by kernel_rfl
@[go_sem] theorem tsz156 : tsz Proofs.Tryz.prog 156 = 1 := by kernel_rfl
@[go_sem] theorem tagg156 : tagg Proofs.Tryz.prog 156 = some false := by kernel_rfl
@[go_sem] theorem tby156 : tby Proofs.Tryz.prog 156 = 8 := by kernel_rfl
@[go_sem] theorem tzero156 : tzero Proofs.Tryz.prog 156 = some (.nilfn) := by kernel_rfl
@[go_sem] theorem tsz158 : tsz Proofs.Tryz.prog 158 = 1 := by kernel_rfl
@[go_sem] theorem tagg158 : tagg Proofs.Tryz.prog 158 = some false := by kernel_rfl
@[go_sem] theorem tby158 : tby Proofs.Tryz.prog 158 = 8 := by kernel_rfl
@[go_sem] theorem tzero158 : tzero Proofs.Tryz.prog 158 = some (.nilfn) := by kernel_rfl
@[go_sem] theorem tsz159 : tsz Proofs.Tryz.prog 159 = 1 := by kernel_rfl
@[go_sem] theorem tagg159 : tagg Proofs.Tryz.prog 159 = some false := by kernel_rfl
@[go_sem] theorem tby159 : tby Proofs.Tryz.prog 159 = 8 := by kernel_rfl
@[go_sem] theorem tzero159 : tzero Proofs.Tryz.prog 159 = some (.nilfn) := by kernel_rfl
@[go_sem] theorem tsz161 : tsz Proofs.Tryz.prog 161 = 1 := by kernel_rfl
@[go_sem] theorem tagg161 : tagg Proofs.Tryz.prog 161 = some false := by kernel_rfl
@[go_sem] theorem tby161 : tby Proofs.Tryz.prog 161 = 8 := by kernel_rfl
@[go_sem] theorem tzero161 : tzero Proofs.Tryz.prog 161 = some (.nilfn) := by kernel_rfl
@[go_sem] theorem tsz164 : tsz Proofs.Tryz.prog 164 = 1 := by kernel_rfl
@[go_sem] theorem tagg164 : tagg Proofs.Tryz.prog 164 = some false := by kernel_rfl
@[go_sem] theorem tby164 : tby Proofs.Tryz.prog 164 = 8 := by kernel_rfl
@[go_sem] theorem tzero164 : tzero Proofs.Tryz.prog 164 = some (.nilfn) := by kernel_rfl
@[go_sem] theorem tsz167 : tsz Proofs.Tryz.prog 167 = 1 := by kernel_rfl
@[go_sem] theorem tagg167 : tagg Proofs.Tryz.prog 167 = some false := by kernel_rfl
@[go_sem] theorem tby167 : tby Proofs.Tryz.prog 167 = 8 := by kernel_rfl
@[go_sem] theorem tzero167 : tzero Proofs.Tryz.prog 167 = some (.nilfn) := by kernel_rfl
@[go_sem] theorem tsz170 : tsz Proofs.Tryz.prog 170 = 0 := by kernel_rfl
@[go_sem] theorem tagg170 : tagg Proofs.Tryz.prog 170 = some true := by kernel_rfl
@[go_sem] theorem tby170 : tby Proofs.Tryz.prog 170 = 0 := by kernel_rfl
@[go_sem] theorem tzero170 : tzero Proofs.Tryz.prog 170 = some (.agg []) := by kernel_rfl
@[go_sem] theorem tsz171 : tsz Proofs.Tryz.prog 171 = 0 := by kernel_rfl
@[go_sem] theorem tagg171 : tagg Proofs.Tryz.prog 171 = some true := by kernel_rfl
@[go_sem] theorem tby171 : tby Proofs.Tryz.prog 171 = 0 := by kernel_rfl
@[go_sem] theorem tzero171 : tzero Proofs.Tryz.prog 171 = some (.agg []) := by kernel_rfl
@[go_sem] theorem tsz172 : tsz Proofs.Tryz.prog 172 = 0 := by kernel_rfl
@[go_sem] theorem tagg172 : tagg Proofs.Tryz.prog 172 = some true := by kernel_rfl
@[go_sem] theorem tby172 : tby Proofs.Tryz.prog 172 = 0 := by kernel_rfl
@[go_sem] theorem tzero172 : tzero Proofs.Tryz.prog 172 = some (.agg []) := by kernel_rfl
@[go_sem] theorem tsz173 : tsz Proofs.Tryz.prog 173 = 1 := by kernel_rfl
@[go_sem] theorem tagg173 : tagg Proofs.Tryz.prog 173 = some false := by kernel_rfl
@[go_sem] theorem tby173 : tby Proofs.Tryz.prog 173 = 4 := by kernel_rfl
@[go_sem] theorem tzero173 : tzero Proofs.Tryz.prog 173 = some (.int .u32 0) := by kernel_rfl
@[go_sem] theorem tsz174 : tsz Proofs.Tryz.prog 174 = 1 := by kernel_rfl
@[go_sem] theorem tagg174 : tagg Proofs.Tryz.prog 174 = some false := by kernel_rfl
@[go_sem] theorem tby174 : tby Proofs.Tryz.prog 174 = 1 := by kernel_rfl
@[go_sem] theorem tzero174 : tzero Proofs.Tryz.prog 174 = some (.int .u8 0) := by kernel_rfl
@[go_sem] theorem tsz175 : tsz Proofs.Tryz.prog 175 = 1 := by kernel_rfl
@[go_sem] theorem tagg175 : tagg Proofs.Tryz.prog 175 = some false := by kernel_rfl
@[go_sem] theorem tby175 : tby Proofs.Tryz.prog 175 = 1 := by kernel_rfl
@[go_sem] theorem tzero175 : tzero Proofs.Tryz.prog 175 = some (.int .u8 0) := by kernel_rfl
@[go_sem] theorem tsz176 : tsz Proofs.Tryz.prog 176 = 1 := by kernel_rfl
@[go_sem] theorem tagg176 : tagg Proofs.Tryz.prog 176 = some false := by kernel_rfl
@[go_sem] theorem tby176 : tby Proofs.Tryz.prog 176 = 8 := by kernel_rfl
@[go_sem] theorem tzero176 : tzero Proofs.Tryz.prog 176 = some (.nilfn) := by kernel_rfl
@[go_sem] theorem tsz177 : tsz Proofs.Tryz.prog 177 = 1 := by kernel_rfl
@[go_sem] theorem tagg177 : tagg Proofs.Tryz.prog 177 = some false := by kernel_rfl
@[go_sem] theorem tby177 : tby Proofs.Tryz.prog 177 = 8 := by kernel_rfl
@[go_sem] theorem tzero177 : tzero Proofs.Tryz.prog 177 = some (.nilp) := by kernel_rfl
@[go_sem] theorem tsz178 : tsz Proofs.Tryz.prog 178 = 1 := by kernel_rfl
@[go_sem] theorem tagg178 : tagg Proofs.Tryz.prog 178 = some false := by kernel_rfl
@[go_sem] theorem tby178 : tby Proofs.Tryz.prog 178 = 4 := by kernel_rfl
@[go_sem] theorem tzero178 : tzero Proofs.Tryz.prog 178 = some (.int .i32 0) := by kernel_rfl
@[go_sem] theorem tsz179 : tsz Proofs.Tryz.prog 179 = 1 := by kernel_rfl
@[go_sem] theorem tagg179 : tagg Proofs.Tryz.prog 179 = some false := by kernel_rfl
@[go_sem] theorem tby179 : tby Proofs.Tryz.prog 179 = 4 := by kernel_rfl
@[go_sem] theorem tzero179 : tzero Proofs.Tryz.prog 179 = some (.int .i32 0) := by kernel_rfl
@[go_sem] theorem tsz180 : tsz Proofs.Tryz.prog 180 = 11 := by kernel_rfl
@[go_sem] theorem tagg180 : tagg Proofs.Tryz.prog 180 = some true := by kernel_rfl
@[go_sem] theorem tby180 : tby Proofs.Tryz.prog 180 = 48 := by kernel_rfl
@[go_sem] theorem tzero180 : tzero Proofs.Tryz.prog 180 = some (.agg [.int .u64 0, .int .u64 0, .int .u32 0, .int .u8 0, .int .u8 0, .int .u8 0, .int .u8 0, .nilfn, .nilp, .int .i32 0, .int .i32 0]) := by kernel_rfl
@[go_sem] theorem tsz181 : tsz Proofs.Tryz.prog 181 = 11 := by kernel_rfl
@[go_sem] theorem tagg181 : tagg Proofs.Tryz.prog 181 = some true := by kernel_rfl
@[go_sem] theorem tby181 : tby Proofs.Tryz.prog 181 = 48 := by kernel_rfl
@[go_sem] theorem tzero181 : tzero Proofs.Tryz.prog 181 = some (.agg [.int .u64 0, .int .u64 0, .int .u32 0, .int .u8 0, .int .u8 0, .int .u8 0, .int .u8 0, .nilfn, .nilp, .int .i32 0, .int .i32 0]) := by kernel_rfl
@[go_sem] theorem tsz182 : tsz Proofs.Tryz.prog 182 = 1 := by kernel_rfl
@[go_sem] theorem tagg182 : tagg Proofs.Tryz.prog 182 = some false := by kernel_rfl
@[go_sem] theorem tby182 : tby Proofs.Tryz.prog 182 = 8 := by kernel_rfl
@[go_sem] theorem tzero182 : tzero Proofs.Tryz.prog 182 = some (.nilp) := by kernel_rfl
attribute [go_sem] Proofs.Tryz.underlying0 Proofs.Tryz.underlying1 Proofs.Tryz.underlying2 Proofs.Tryz.underlying3 Proofs.Tryz.underlying4 Proofs.Tryz.underlying5 Proofs.Tryz.underlying6 Proofs.Tryz.underlying7 Proofs.Tryz.underlying8 Proofs.Tryz.underlying9 Proofs.Tryz.underlying10 Proofs.Tryz.underlying11 Proofs.Tryz.underlying12 Proofs.Tryz.underlying16 Proofs.Tryz.underlying17 Proofs.Tryz.underlying21 Proofs.Tryz.underlying22 Proofs.Tryz.underlying23 Proofs.Tryz.underlying24 Proofs.Tryz.underlying25 Proofs.Tryz.underlying26 Proofs.Tryz.underlying27 Proofs.Tryz.underlying28 Proofs.Tryz.underlying29 Proofs.Tryz.underlying31 Proofs.Tryz.underlying32 Proofs.Tryz.underlying33 Proofs.Tryz.underlying34 Proofs.Tryz.underlying35 Proofs.Tryz.underlying36 Proofs.Tryz.underlying39 Proofs.Tryz.underlying40 Proofs.Tryz.underlying41 Proofs.Tryz.underlying43 Proofs.Tryz.underlying45 Proofs.Tryz.underlying46 Proofs.Tryz.underlying48 Proofs.Tryz.underlying50 Proofs.Tryz.underlying51 Proofs.Tryz.underlying52 Proofs.Tryz.underlying53 Proofs.Tryz.underlying54 Proofs.Tryz.underlying55 Proofs.Tryz.underlying56 Proofs.Tryz.underlying57 Proofs.Tryz.underlying59 Proofs.Tryz.underlying60 Proofs.Tryz.underlying62 Proofs.Tryz.underlying63 Proofs.Tryz.underlying64 Proofs.Tryz.underlying65 Proofs.Tryz.underlying67 Proofs.Tryz.underlying68 Proofs.Tryz.underlying77 Proofs.Tryz.underlying78 Proofs.Tryz.underlying79 Proofs.Tryz.underlying80 Proofs.Tryz.underlying81 Proofs.Tryz.underlying88 Proofs.Tryz.underlying89 Proofs.Tryz.underlying91 Proofs.Tryz.underlying94 Proofs.Tryz.underlying101 Proofs.Tryz.underlying106 Proofs.Tryz.underlying107 Proofs.Tryz.underlying108 Proofs.Tryz.underlying109 Proofs.Tryz.underlying110 Proofs.Tryz.underlying112 Proofs.Tryz.underlying113 Proofs.Tryz.underlying116 Proofs.Tryz.underlying117 Proofs.Tryz.underlying118 Proofs.Tryz.underlying120 Proofs.Tryz.underlying121 Proofs.Tryz.underlying122 Proofs.Tryz.underlying124 Proofs.Tryz.underlying125 Proofs.Tryz.underlying128 Proofs.Tryz.underlying132 Proofs.Tryz.underlying134 Proofs.Tryz.underlying137 Proofs.Tryz.underlying140 Proofs.Tryz.underlying141 Proofs.Tryz.underlying142 Proofs.Tryz.underlying143 Proofs.Tryz.underlying145 Proofs.Tryz.underlying146 Proofs.Tryz.underlying147 Proofs.Tryz.underlying149 Proofs.Tryz.underlying151 Proofs.Tryz.underlying152 Proofs.Tryz.underlying153 Proofs.Tryz.underlying154 Proofs.Tryz.underlying155 Proofs.Tryz.underlying156 Proofs.Tryz.underlying158 Proofs.Tryz.underlying159 Proofs.Tryz.underlying161 Proofs.Tryz.underlying164 Proofs.Tryz.underlying167 Proofs.Tryz.underlying170 Proofs.Tryz.underlying171 Proofs.Tryz.underlying172 Proofs.Tryz.underlying173 Proofs.Tryz.underlying174 Proofs.Tryz.underlying175 Proofs.Tryz.underlying176 Proofs.Tryz.underlying177 Proofs.Tryz.underlying178 Proofs.Tryz.underlying179 Proofs.Tryz.underlying180 Proofs.Tryz.underlying181 Proofs.Tryz.underlying182
end Go.Fly.Tryz
