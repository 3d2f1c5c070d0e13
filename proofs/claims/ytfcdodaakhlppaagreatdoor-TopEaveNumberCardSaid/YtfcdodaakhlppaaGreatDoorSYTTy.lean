/- MADE BY PROGRAM (gentypes.py): closed facts of the program's types. -/
import Derived.Test.YtfcdodaakhlppaaGreatDoorAE
import Derived.Test.YtfcdodaakhlppaaGreatDoorProg
import Derived.KernelRfl
set_option linter.unusedSimpArgs false
set_option linter.unusedVariables false
namespace Go.Fly.Tryz
open Go
@[go_sem] theorem tsz1 : tsz Proofs.Tryz.prog 1 = 1 := by kernel_rfl
@[go_sem] theorem tagg1 : tagg Proofs.Tryz.prog 1 = some false := by kernel_rfl
@[go_sem] theorem tby1 : tby Proofs.Tryz.prog 1 = 8 := by kernel_rfl
@[go_sem] theorem tzero1 : tzero Proofs.Tryz.prog 1 = some (.nilfn) := by kernel_rfl
@[go_sem] theorem tsz2 : tsz Proofs.Tryz.prog 2 = 1 := by kernel_rfl
@[go_sem] theorem tagg2 : tagg Proofs.Tryz.prog 2 = some false := by kernel_rfl
@[go_sem] theorem tby2 : tby Proofs.Tryz.prog 2 = 8 := by kernel_rfl
@[go_sem] theorem tzero2 : tzero Proofs.Tryz.prog 2 = some (.int .i64 0) := by kernel_rfl
@[go_sem] theorem tsz3 : tsz Proofs.Tryz.prog 3 = 1 := by kernel_rfl
@[go_sem] theorem tagg3 : tagg Proofs.Tryz.prog 3 = some false := by kernel_rfl
@[go_sem] theorem tby3 : tby Proofs.Tryz.prog 3 = 8 := by kernel_rfl
@[go_sem] theorem tzero3 : tzero Proofs.Tryz.prog 3 = some (.int .i64 0) := by kernel_rfl
@[go_sem] theorem tsz4 : tsz Proofs.Tryz.prog 4 = 1 := by kernel_rfl
@[go_sem] theorem tagg4 : tagg Proofs.Tryz.prog 4 = some false := by kernel_rfl
@[go_sem] theorem tby4 : tby Proofs.Tryz.prog 4 = 1 := by kernel_rfl
@[go_sem] theorem tzero4 : tzero Proofs.Tryz.prog 4 = some (.bool false) := by kernel_rfl
@[go_sem] theorem tsz5 : tsz Proofs.Tryz.prog 5 = 1 := by kernel_rfl
@[go_sem] theorem tagg5 : tagg Proofs.Tryz.prog 5 = some false := by kernel_rfl
@[go_sem] theorem tby5 : tby Proofs.Tryz.prog 5 = 1 := by kernel_rfl
@[go_sem] theorem tzero5 : tzero Proofs.Tryz.prog 5 = some (.int .u8 0) := by kernel_rfl
@[go_sem] theorem tsz6 : tsz Proofs.Tryz.prog 6 = 1 := by kernel_rfl
@[go_sem] theorem tagg6 : tagg Proofs.Tryz.prog 6 = some false := by kernel_rfl
@[go_sem] theorem tby6 : tby Proofs.Tryz.prog 6 = 1 := by kernel_rfl
@[go_sem] theorem tzero6 : tzero Proofs.Tryz.prog 6 = some (.int .u8 0) := by kernel_rfl
@[go_sem] theorem tsz7 : tsz Proofs.Tryz.prog 7 = 4 := by kernel_rfl
@[go_sem] theorem tagg7 : tagg Proofs.Tryz.prog 7 = some true := by kernel_rfl
@[go_sem] theorem tby7 : tby Proofs.Tryz.prog 7 = 24 := by kernel_rfl
@[go_sem] theorem tzero7 : tzero Proofs.Tryz.prog 7 = some (.agg [.int .i64 0, .int .i64 0, .bool false, .int .u8 0]) := by kernel_rfl
@[go_sem] theorem tsz8 : tsz Proofs.Tryz.prog 8 = 4 := by kernel_rfl
@[go_sem] theorem tagg8 : tagg Proofs.Tryz.prog 8 = some true := by kernel_rfl
@[go_sem] theorem tby8 : tby Proofs.Tryz.prog 8 = 24 := by kernel_rfl
@[go_sem] theorem tzero8 : tzero Proofs.Tryz.prog 8 = some (.agg [.int .i64 0, .int .i64 0, .bool false, .int .u8 0]) := by kernel_rfl
@[go_sem] theorem tsz9 : tsz Proofs.Tryz.prog 9 = 1 := by kernel_rfl
@[go_sem] theorem tagg9 : tagg Proofs.Tryz.prog 9 = some false := by kernel_rfl
@[go_sem] theorem tby9 : tby Proofs.Tryz.prog 9 = 16 := by kernel_rfl
@[go_sem] theorem tzero9 : tzero Proofs.Tryz.prog 9 = some (.str []) := by kernel_rfl
@[go_sem] theorem tsz10 : tsz Proofs.Tryz.prog 10 = 1 := by kernel_rfl
@[go_sem] theorem tagg10 : tagg Proofs.Tryz.prog 10 = some false := by kernel_rfl
@[go_sem] theorem tby10 : tby Proofs.Tryz.prog 10 = 16 := by kernel_rfl
@[go_sem] theorem tzero10 : tzero Proofs.Tryz.prog 10 = some (.str []) := by kernel_rfl
@[go_sem] theorem tsz11 : tsz Proofs.Tryz.prog 11 = 1 := by kernel_rfl
@[go_sem] theorem tagg11 : tagg Proofs.Tryz.prog 11 = some false := by kernel_rfl
@[go_sem] theorem tby11 : tby Proofs.Tryz.prog 11 = 16 := by kernel_rfl
@[go_sem] theorem tzero11 : tzero Proofs.Tryz.prog 11 = some (.str []) := by kernel_rfl
@[go_sem] theorem tsz12 : tsz Proofs.Tryz.prog 12 = 1 := by kernel_rfl
@[go_sem] theorem tagg12 : tagg Proofs.Tryz.prog 12 = some false := by kernel_rfl
@[go_sem] theorem tby12 : tby Proofs.Tryz.prog 12 = 8 := by kernel_rfl
@[go_sem] theorem tzero12 : tzero Proofs.Tryz.prog 12 = some (.int .u64 0) := by kernel_rfl
@[go_sem] theorem tsz16 : tsz Proofs.Tryz.prog 16 = 1 := by kernel_rfl
@[go_sem] theorem tagg16 : tagg Proofs.Tryz.prog 16 = some false := by kernel_rfl
@[go_sem] theorem tby16 : tby Proofs.Tryz.prog 16 = 8 := by kernel_rfl
@[go_sem] theorem tzero16 : tzero Proofs.Tryz.prog 16 = some (.nilp) := by kernel_rfl
@[go_sem] theorem tsz17 : tsz Proofs.Tryz.prog 17 = 1 := by kernel_rfl
@[go_sem] theorem tagg17 : tagg Proofs.Tryz.prog 17 = some false := by kernel_rfl
@[go_sem] theorem tby17 : tby Proofs.Tryz.prog 17 = 8 := by kernel_rfl
@[go_sem] theorem tzero17 : tzero Proofs.Tryz.prog 17 = some (.nilp) := by kernel_rfl
@[go_sem] theorem tsz20 : tsz Proofs.Tryz.prog 20 = 1 := by kernel_rfl
@[go_sem] theorem tagg20 : tagg Proofs.Tryz.prog 20 = some false := by kernel_rfl
@[go_sem] theorem tby20 : tby Proofs.Tryz.prog 20 = 16 := by kernel_rfl
@[go_sem] theorem tsz21 : tsz Proofs.Tryz.prog 21 = 1 := by kernel_rfl
@[go_sem] theorem tagg21 : tagg Proofs.Tryz.prog 21 = some false := by kernel_rfl
@[go_sem] theorem tby21 : tby Proofs.Tryz.prog 21 = 4 := by kernel_rfl
@[go_sem] theorem tzero21 : tzero Proofs.Tryz.prog 21 = some (.int .i32 0) := by kernel_rfl
@[go_sem] theorem tsz23 : tsz Proofs.Tryz.prog 23 = 1 := by kernel_rfl
@[go_sem] theorem tagg23 : tagg Proofs.Tryz.prog 23 = some false := by kernel_rfl
@[go_sem] theorem tby23 : tby Proofs.Tryz.prog 23 = 8 := by kernel_rfl
@[go_sem] theorem tzero23 : tzero Proofs.Tryz.prog 23 = some (.nilfn) := by kernel_rfl
@[go_sem] theorem tsz24 : tsz Proofs.Tryz.prog 24 = 1 := by kernel_rfl
@[go_sem] theorem tagg24 : tagg Proofs.Tryz.prog 24 = some false := by kernel_rfl
@[go_sem] theorem tby24 : tby Proofs.Tryz.prog 24 = 24 := by kernel_rfl
@[go_sem] theorem tzero24 : tzero Proofs.Tryz.prog 24 = some (.nils) := by kernel_rfl
@[go_sem] theorem tsz25 : tsz Proofs.Tryz.prog 25 = 1 := by kernel_rfl
@[go_sem] theorem tagg25 : tagg Proofs.Tryz.prog 25 = some false := by kernel_rfl
@[go_sem] theorem tby25 : tby Proofs.Tryz.prog 25 = 8 := by kernel_rfl
@[go_sem] theorem tzero25 : tzero Proofs.Tryz.prog 25 = some (.nilfn) := by kernel_rfl
@[go_sem] theorem tsz26 : tsz Proofs.Tryz.prog 26 = 1 := by kernel_rfl
@[go_sem] theorem tagg26 : tagg Proofs.Tryz.prog 26 = some false := by kernel_rfl
@[go_sem] theorem tby26 : tby Proofs.Tryz.prog 26 = 8 := by kernel_rfl
@[go_sem] theorem tzero26 : tzero Proofs.Tryz.prog 26 = some (.nilp) := by kernel_rfl
@[go_sem] theorem tsz27 : tsz Proofs.Tryz.prog 27 = 1 := by kernel_rfl
@[go_sem] theorem tagg27 : tagg Proofs.Tryz.prog 27 = some false := by kernel_rfl
@[go_sem] theorem tby27 : tby Proofs.Tryz.prog 27 = 24 := by kernel_rfl
@[go_sem] theorem tzero27 : tzero Proofs.Tryz.prog 27 = some (.nils) := by kernel_rfl
@[go_sem] theorem tsz31 : tsz Proofs.Tryz.prog 31 = 1 := by kernel_rfl
@[go_sem] theorem tagg31 : tagg Proofs.Tryz.prog 31 = some false := by kernel_rfl
@[go_sem] theorem tby31 : tby Proofs.Tryz.prog 31 = 2 := by kernel_rfl
@[go_sem] theorem tzero31 : tzero Proofs.Tryz.prog 31 = some (.int .u16 0) := by kernel_rfl
@[go_sem] theorem tsz32 : tsz Proofs.Tryz.prog 32 = 3 := by kernel_rfl
@[go_sem] theorem tagg32 : tagg Proofs.Tryz.prog 32 = some true := by kernel_rfl
@[go_sem] theorem tby32 : tby Proofs.Tryz.prog 32 = 4 := by kernel_rfl
@[go_sem] theorem tzero32 : tzero Proofs.Tryz.prog 32 = some (.agg [.bool false, .int .u8 0, .int .u16 0]) := by kernel_rfl
@[go_sem] theorem tsz35 : tsz Proofs.Tryz.prog 35 = 1 := by kernel_rfl
@[go_sem] theorem tagg35 : tagg Proofs.Tryz.prog 35 = some false := by kernel_rfl
@[go_sem] theorem tby35 : tby Proofs.Tryz.prog 35 = 8 := by kernel_rfl
@[go_sem] theorem tzero35 : tzero Proofs.Tryz.prog 35 = some (.int .i64 0) := by kernel_rfl
@[go_sem] theorem tsz38 : tsz Proofs.Tryz.prog 38 = 1 := by kernel_rfl
@[go_sem] theorem tagg38 : tagg Proofs.Tryz.prog 38 = some false := by kernel_rfl
@[go_sem] theorem tby38 : tby Proofs.Tryz.prog 38 = 24 := by kernel_rfl
@[go_sem] theorem tzero38 : tzero Proofs.Tryz.prog 38 = some (.nils) := by kernel_rfl
@[go_sem] theorem tsz39 : tsz Proofs.Tryz.prog 39 = 5 := by kernel_rfl
@[go_sem] theorem tagg39 : tagg Proofs.Tryz.prog 39 = some true := by kernel_rfl
@[go_sem] theorem tby39 : tby Proofs.Tryz.prog 39 = 88 := by kernel_rfl
@[go_sem] theorem tzero39 : tzero Proofs.Tryz.prog 39 = some (.agg [.int .i64 0, .str [], .nils, .nils, .str []]) := by kernel_rfl
@[go_sem] theorem tsz40 : tsz Proofs.Tryz.prog 40 = 5 := by kernel_rfl
@[go_sem] theorem tagg40 : tagg Proofs.Tryz.prog 40 = some true := by kernel_rfl
@[go_sem] theorem tby40 : tby Proofs.Tryz.prog 40 = 88 := by kernel_rfl
@[go_sem] theorem tzero40 : tzero Proofs.Tryz.prog 40 = some (.agg [.int .i64 0, .str [], .nils, .nils, .str []]) := by kernel_rfl
@[go_sem] theorem tsz44 : tsz Proofs.Tryz.prog 44 = 1 := by kernel_rfl
@[go_sem] theorem tagg44 : tagg Proofs.Tryz.prog 44 = some false := by kernel_rfl
@[go_sem] theorem tby44 : tby Proofs.Tryz.prog 44 = 24 := by kernel_rfl
@[go_sem] theorem tzero44 : tzero Proofs.Tryz.prog 44 = some (.nils) := by kernel_rfl
@[go_sem] theorem tsz45 : tsz Proofs.Tryz.prog 45 = 1 := by kernel_rfl
@[go_sem] theorem tagg45 : tagg Proofs.Tryz.prog 45 = some false := by kernel_rfl
@[go_sem] theorem tby45 : tby Proofs.Tryz.prog 45 = 24 := by kernel_rfl
@[go_sem] theorem tzero45 : tzero Proofs.Tryz.prog 45 = some (.nils) := by kernel_rfl
@[go_sem] theorem tsz46 : tsz Proofs.Tryz.prog 46 = 1 := by kernel_rfl
@[go_sem] theorem tagg46 : tagg Proofs.Tryz.prog 46 = some false := by kernel_rfl
@[go_sem] theorem tby46 : tby Proofs.Tryz.prog 46 = 24 := by kernel_rfl
@[go_sem] theorem tzero46 : tzero Proofs.Tryz.prog 46 = some (.nils) := by kernel_rfl
@[go_sem] theorem tsz47 : tsz Proofs.Tryz.prog 47 = 1 := by kernel_rfl
@[go_sem] theorem tagg47 : tagg Proofs.Tryz.prog 47 = some false := by kernel_rfl
@[go_sem] theorem tby47 : tby Proofs.Tryz.prog 47 = 24 := by kernel_rfl
@[go_sem] theorem tzero47 : tzero Proofs.Tryz.prog 47 = some (.nils) := by kernel_rfl
@[go_sem] theorem tsz48 : tsz Proofs.Tryz.prog 48 = 1 := by kernel_rfl
@[go_sem] theorem tagg48 : tagg Proofs.Tryz.prog 48 = some false := by kernel_rfl
@[go_sem] theorem tby48 : tby Proofs.Tryz.prog 48 = 24 := by kernel_rfl
@[go_sem] theorem tzero48 : tzero Proofs.Tryz.prog 48 = some (.nils) := by kernel_rfl
@[go_sem] theorem tsz49 : tsz Proofs.Tryz.prog 49 = 1 := by kernel_rfl
@[go_sem] theorem tagg49 : tagg Proofs.Tryz.prog 49 = some false := by kernel_rfl
@[go_sem] theorem tby49 : tby Proofs.Tryz.prog 49 = 24 := by kernel_rfl
@[go_sem] theorem tzero49 : tzero Proofs.Tryz.prog 49 = some (.nils) := by kernel_rfl
@[go_sem] theorem tsz50 : tsz Proofs.Tryz.prog 50 = 8 := by kernel_rfl
@[go_sem] theorem tagg50 : tagg Proofs.Tryz.prog 50 = some true := by kernel_rfl
@[go_sem] theorem tby50 : tby Proofs.Tryz.prog 50 = 160 := by kernel_rfl
@[go_sem] theorem tzero50 : tzero Proofs.Tryz.prog 50 = some (.agg [.int .i64 0, .nils, .nils, .nils, .nils, .nils, .nils, .int .i64 0]) := by kernel_rfl
@[go_sem] theorem tsz51 : tsz Proofs.Tryz.prog 51 = 8 := by kernel_rfl
@[go_sem] theorem tagg51 : tagg Proofs.Tryz.prog 51 = some true := by kernel_rfl
@[go_sem] theorem tby51 : tby Proofs.Tryz.prog 51 = 160 := by kernel_rfl
@[go_sem] theorem tzero51 : tzero Proofs.Tryz.prog 51 = some (.agg [.int .i64 0, .nils, .nils, .nils, .nils, .nils, .nils, .int .i64 0]) := by kernel_rfl
@[go_sem] theorem tsz55 : tsz Proofs.Tryz.prog 55 = 1 := by kernel_rfl
@[go_sem] theorem tagg55 : tagg Proofs.Tryz.prog 55 = some false := by kernel_rfl
@[go_sem] theorem tby55 : tby Proofs.Tryz.prog 55 = 24 := by kernel_rfl
@[go_sem] theorem tzero55 : tzero Proofs.Tryz.prog 55 = some (.nils) := by kernel_rfl
@[go_sem] theorem tsz56 : tsz Proofs.Tryz.prog 56 = 3 := by kernel_rfl
@[go_sem] theorem tagg56 : tagg Proofs.Tryz.prog 56 = some true := by kernel_rfl
@[go_sem] theorem tby56 : tby Proofs.Tryz.prog 56 = 6 := by kernel_rfl
@[go_sem] theorem tzero56 : tzero Proofs.Tryz.prog 56 = some (.agg [.int .u16 0, .int .u16 0, .int .u16 0]) := by kernel_rfl
@[go_sem] theorem tsz57 : tsz Proofs.Tryz.prog 57 = 1 := by kernel_rfl
@[go_sem] theorem tagg57 : tagg Proofs.Tryz.prog 57 = some false := by kernel_rfl
@[go_sem] theorem tby57 : tby Proofs.Tryz.prog 57 = 4 := by kernel_rfl
@[go_sem] theorem tzero57 : tzero Proofs.Tryz.prog 57 = some (.int .u32 0) := by kernel_rfl
@[go_sem] theorem tsz59 : tsz Proofs.Tryz.prog 59 = 1 := by kernel_rfl
@[go_sem] theorem tagg59 : tagg Proofs.Tryz.prog 59 = some false := by kernel_rfl
@[go_sem] theorem tby59 : tby Proofs.Tryz.prog 59 = 24 := by kernel_rfl
@[go_sem] theorem tzero59 : tzero Proofs.Tryz.prog 59 = some (.nils) := by kernel_rfl
@[go_sem] theorem tsz64 : tsz Proofs.Tryz.prog 64 = 2 := by kernel_rfl
@[go_sem] theorem tagg64 : tagg Proofs.Tryz.prog 64 = some true := by kernel_rfl
@[go_sem] theorem tby64 : tby Proofs.Tryz.prog 64 = 24 := by kernel_rfl
@[go_sem] theorem tzero64 : tzero Proofs.Tryz.prog 64 = some (.agg [.str [], .int .i64 0]) := by kernel_rfl
@[go_sem] theorem tsz65 : tsz Proofs.Tryz.prog 65 = 2 := by kernel_rfl
@[go_sem] theorem tagg65 : tagg Proofs.Tryz.prog 65 = some true := by kernel_rfl
@[go_sem] theorem tby65 : tby Proofs.Tryz.prog 65 = 24 := by kernel_rfl
@[go_sem] theorem tzero65 : tzero Proofs.Tryz.prog 65 = some (.agg [.str [], .int .i64 0]) := by kernel_rfl
@[go_sem] theorem tsz66 : tsz Proofs.Tryz.prog 66 = 1 := by kernel_rfl
@[go_sem] theorem tagg66 : tagg Proofs.Tryz.prog 66 = some false := by kernel_rfl
@[go_sem] theorem tby66 : tby Proofs.Tryz.prog 66 = 24 := by kernel_rfl
@[go_sem] theorem tzero66 : tzero Proofs.Tryz.prog 66 = some (.nils) := by kernel_rfl
@[go_sem] theorem tsz67 : tsz Proofs.Tryz.prog 67 = 3 := by kernel_rfl
@[go_sem] theorem tagg67 : tagg Proofs.Tryz.prog 67 = some true := by kernel_rfl
@[go_sem] theorem tby67 : tby Proofs.Tryz.prog 67 = 48 := by kernel_rfl
@[go_sem] theorem tzero67 : tzero Proofs.Tryz.prog 67 = some (.agg [.str [], .int .i64 0, .nils]) := by kernel_rfl
@[go_sem] theorem tsz68 : tsz Proofs.Tryz.prog 68 = 3 := by kernel_rfl
@[go_sem] theorem tagg68 : tagg Proofs.Tryz.prog 68 = some true := by kernel_rfl
@[go_sem] theorem tby68 : tby Proofs.Tryz.prog 68 = 48 := by kernel_rfl
@[go_sem] theorem tzero68 : tzero Proofs.Tryz.prog 68 = some (.agg [.str [], .int .i64 0, .nils]) := by kernel_rfl
@[go_sem] theorem tsz71 : tsz Proofs.Tryz.prog 71 = 2 := by kernel_rfl
@[go_sem] theorem tagg71 : tagg Proofs.Tryz.prog 71 = some true := by kernel_rfl
@[go_sem] theorem tby71 : tby Proofs.Tryz.prog 71 = 16 := by kernel_rfl
@[go_sem] theorem tzero71 : tzero Proofs.Tryz.prog 71 = some (.agg [.int .i64 0, .int .i64 0]) := by kernel_rfl
@[go_sem] theorem tsz75 : tsz Proofs.Tryz.prog 75 = 4 := by kernel_rfl
@[go_sem] theorem tagg75 : tagg Proofs.Tryz.prog 75 = some true := by kernel_rfl
@[go_sem] theorem tby75 : tby Proofs.Tryz.prog 75 = 40 := by kernel_rfl
@[go_sem] theorem tzero75 : tzero Proofs.Tryz.prog 75 = some (.agg [.str [], .int .i64 0, .int .i64 0, .int .i64 0]) := by kernel_rfl
@[go_sem] theorem tsz76 : tsz Proofs.Tryz.prog 76 = 4 := by kernel_rfl
@[go_sem] theorem tagg76 : tagg Proofs.Tryz.prog 76 = some true := by kernel_rfl
@[go_sem] theorem tby76 : tby Proofs.Tryz.prog 76 = 40 := by kernel_rfl
@[go_sem] theorem tzero76 : tzero Proofs.Tryz.prog 76 = some (.agg [.str [], .int .i64 0, .int .i64 0, .int .i64 0]) := by kernel_rfl
@[go_sem] theorem tsz77 : tsz Proofs.Tryz.prog 77 = 1 := by kernel_rfl
@[go_sem] theorem tagg77 : tagg Proofs.Tryz.prog 77 = some false := by kernel_rfl
@[go_sem] theorem tby77 : tby Proofs.Tryz.prog 77 = 24 := by kernel_rfl
@[go_sem] theorem tzero77 : tzero Proofs.Tryz.prog 77 = some (.nils) := by kernel_rfl
@[go_sem] theorem tsz114 : tsz Proofs.Tryz.prog 114 = 6 := by kernel_rfl
@[go_sem] theorem tagg114 : tagg Proofs.Tryz.prog 114 = some true := by kernel_rfl
@[go_sem] theorem tby114 : tby Proofs.Tryz.prog 114 = 72 := by kernel_rfl
@[go_sem] theorem tzero114 : tzero Proofs.Tryz.prog 114 = some (.agg [.str [], .str [], .int .i64 0, .int .i64 0, .str [], .int .i64 0]) := by kernel_rfl
@[go_sem] theorem tsz115 : tsz Proofs.Tryz.prog 115 = 6 := by kernel_rfl
@[go_sem] theorem tagg115 : tagg Proofs.Tryz.prog 115 = some true := by kernel_rfl
@[go_sem] theorem tby115 : tby Proofs.Tryz.prog 115 = 72 := by kernel_rfl
@[go_sem] theorem tzero115 : tzero Proofs.Tryz.prog 115 = some (.agg [.str [], .str [], .int .i64 0, .int .i64 0, .str [], .int .i64 0]) := by kernel_rfl
@[go_sem] theorem tsz125 : tsz Proofs.Tryz.prog 125 = 5 := by kernel_rfl
@[go_sem] theorem tagg125 : tagg Proofs.Tryz.prog 125 = some true := by kernel_rfl
@[go_sem] theorem tby125 : tby Proofs.Tryz.prog 125 = 56 := by kernel_rfl
@[go_sem] theorem tzero125 : tzero Proofs.Tryz.prog 125 = some (.agg [.str [], .str [], .int .i64 0, .int .i64 0, .int .i64 0]) := by kernel_rfl
@[go_sem] theorem tsz126 : tsz Proofs.Tryz.prog 126 = 5 := by kernel_rfl
@[go_sem] theorem tagg126 : tagg Proofs.Tryz.prog 126 = some true := by kernel_rfl
@[go_sem] theorem tby126 : tby Proofs.Tryz.prog 126 = 56 := by kernel_rfl
@[go_sem] theorem tzero126 : tzero Proofs.Tryz.prog 126 = some (.agg [.str [], .str [], .int .i64 0, .int .i64 0, .int .i64 0]) := by kernel_rfl
@[go_sem] theorem tsz135 : tsz Proofs.Tryz.prog 135 = 2 := by kernel_rfl
@[go_sem] theorem tagg135 : tagg Proofs.Tryz.prog 135 = some true := by kernel_rfl
@[go_sem] theorem tby135 : tby Proofs.Tryz.prog 135 = 16 := by kernel_rfl
@[go_sem] theorem tzero135 : tzero Proofs.Tryz.prog 135 = some (.agg [.int .i64 0, .int .i64 0]) := by kernel_rfl
@[go_sem] theorem tsz136 : tsz Proofs.Tryz.prog 136 = 2 := by kernel_rfl
@[go_sem] theorem tagg136 : tagg Proofs.Tryz.prog 136 = some true := by kernel_rfl
@[go_sem] theorem tby136 : tby Proofs.Tryz.prog 136 = 16 := by kernel_rfl
@[go_sem] theorem tzero136 : tzero Proofs.Tryz.prog 136 = some (.agg [.int .i64 0, .int .i64 0]) := by kernel_rfl
@[go_sem] theorem tsz139 : tsz Proofs.Tryz.prog 139 = 1 := by kernel_rfl
@[go_sem] theorem tagg139 : tagg Proofs.Tryz.prog 139 = some false := by kernel_rfl
@[go_sem] theorem tby139 : tby Proofs.Tryz.prog 139 = 24 := by kernel_rfl
@[go_sem] theorem tzero139 : tzero Proofs.Tryz.prog 139 = some (.nils) := by kernel_rfl
@[go_sem] theorem tsz140 : tsz Proofs.Tryz.prog 140 = 1 := by kernel_rfl
@[go_sem] theorem tagg140 : tagg Proofs.Tryz.prog 140 = some false := by kernel_rfl
@[go_sem] theorem tby140 : tby Proofs.Tryz.prog 140 = 8 := by kernel_rfl
@[go_sem] theorem tzero140 : tzero Proofs.Tryz.prog 140 = some (.nilp) := by kernel_rfl
@[go_sem] theorem tsz144 : tsz Proofs.Tryz.prog 144 = 1 := by kernel_rfl
@[go_sem] theorem tagg144 : tagg Proofs.Tryz.prog 144 = some false := by kernel_rfl
@[go_sem] theorem tby144 : tby Proofs.Tryz.prog 144 = 8 := by kernel_rfl
@[go_sem] theorem tzero144 : tzero Proofs.Tryz.prog 144 = some (.nilfn) := by kernel_rfl
@[go_sem] theorem tsz146 : tsz Proofs.Tryz.prog 146 = 1 := by kernel_rfl
@[go_sem] theorem tagg146 : tagg Proofs.Tryz.prog 146 = some false := by kernel_rfl
@[go_sem] theorem tby146 : tby Proofs.Tryz.prog 146 = 8 := by kernel_rfl
@[go_sem] theorem tsz148 : tsz Proofs.Tryz.prog 148 = 1 := by kernel_rfl
@[go_sem] theorem tagg148 : tagg Proofs.Tryz.prog 148 = some false := by kernel_rfl
@[go_sem] theorem tby148 : tby Proofs.Tryz.prog 148 = 8 := by kernel_rfl
@[go_sem] theorem tzero148 : tzero Proofs.Tryz.prog 148 = some (.nilfn) := by kernel_rfl
@[go_sem] theorem tsz149 : tsz Proofs.Tryz.prog 149 = 10 := by kernel_rfl
@[go_sem] theorem tagg149 : tagg Proofs.Tryz.prog 149 = some true := by kernel_rfl
@[go_sem] theorem tby149 : tby Proofs.Tryz.prog 149 = 208 := by kernel_rfl
@[go_sem] theorem tzero149 : tzero Proofs.Tryz.prog 149 = some (.agg [.nils, .nils, .int .i64 0, .nils, .nils, .nils, .nils, .nils, .nils, .int .i64 0]) := by kernel_rfl
@[go_sem] theorem tsz150 : tsz Proofs.Tryz.prog 150 = 10 := by kernel_rfl
@[go_sem] theorem tagg150 : tagg Proofs.Tryz.prog 150 = some true := by kernel_rfl
@[go_sem] theorem tby150 : tby Proofs.Tryz.prog 150 = 208 := by kernel_rfl
@[go_sem] theorem tzero150 : tzero Proofs.Tryz.prog 150 = some (.agg [.nils, .nils, .int .i64 0, .nils, .nils, .nils, .nils, .nils, .nils, .int .i64 0]) := by kernel_rfl
@[go_sem] theorem tsz153 : tsz Proofs.Tryz.prog 153 = 1 := by kernel_rfl
@[go_sem] theorem tagg153 : tagg Proofs.Tryz.prog 153 = some false := by kernel_rfl
@[go_sem] theorem tby153 : tby Proofs.Tryz.prog 153 = 8 := by kernel_rfl
@[go_sem] theorem tzero153 : tzero Proofs.Tryz.prog 153 = some (.nilfn) := by kernel_rfl
@[go_sem] theorem tsz154 : tsz Proofs.Tryz.prog 154 = 2 := by kernel_rfl
@[go_sem] theorem tagg154 : tagg Proofs.Tryz.prog 154 = some true := by kernel_rfl
@[go_sem] theorem tby154 : tby Proofs.Tryz.prog 154 = 24 := by kernel_rfl
@[go_sem] theorem tzero154 : tzero Proofs.Tryz.prog 154 = some (.agg [.str [], .int .i64 0]) := by kernel_rfl
@[go_sem] theorem tsz155 : tsz Proofs.Tryz.prog 155 = 2 := by kernel_rfl
@[go_sem] theorem tagg155 : tagg Proofs.Tryz.prog 155 = some true := by kernel_rfl
@[go_sem] theorem tby155 : tby Proofs.Tryz.prog 155 = 24 := by kernel_rfl
@[go_sem] theorem tzero155 : tzero Proofs.Tryz.prog 155 = some (.agg [.str [], .int .i64 0]) := by kernel_rfl
@[go_sem] theorem tsz156 : tsz Proofs.Tryz.prog 156 = 1 := by kernel_rfl
@[go_sem] theorem tagg156 : tagg Proofs.Tryz.prog 156 = some false := by kernel_rfl
@[go_sem] theorem tby156 : tby Proofs.Tryz.prog 156 = 8 := by kernel_rfl
@[go_sem] theorem tzero156 : tzero Proofs.Tryz.prog 156 = some (.nilp) := by kernel_rfl
@[go_sem] theorem tsz157 : tsz Proofs.Tryz.prog 157 = 1 := by kernel_rfl
@[go_sem] theorem tagg157 : tagg Proofs.Tryz.prog 157 = some false := by kernel_rfl
@[go_sem] theorem tby157 : tby Proofs.Tryz.prog 157 = 8 := by kernel_rfl
@[go_sem] theorem tzero157 : tzero Proofs.Tryz.prog 157 = some (.nilfn) := by kernel_rfl
@[go_sem] theorem tsz160 : tsz Proofs.Tryz.prog 160 = 8 := by kernel_rfl
@[go_sem] theorem tagg160 : tagg Proofs.Tryz.prog 160 = some true := by kernel_rfl
@[go_sem] theorem tby160 : tby Proofs.Tryz.prog 160 = 64 := by kernel_rfl
@[go_sem] theorem tzero160 : tzero Proofs.Tryz.prog 160 = some (.agg [.int .i64 0, .int .i64 0, .int .i64 0, .int .i64 0, .int .i64 0, .int .i64 0, .int .i64 0, .int .i64 0]) := by kernel_rfl
@[go_sem] theorem tsz161 : tsz Proofs.Tryz.prog 161 = 8 := by kernel_rfl
@[go_sem] theorem tagg161 : tagg Proofs.Tryz.prog 161 = some true := by kernel_rfl
@[go_sem] theorem tby161 : tby Proofs.Tryz.prog 161 = 64 := by kernel_rfl
@[go_sem] theorem tzero161 : tzero Proofs.Tryz.prog 161 = some (.agg [.int .i64 0, .int .i64 0, .int .i64 0, .int .i64 0, .int .i64 0, .int .i64 0, .int .i64 0, .int .i64 0]) := by kernel_rfl
@[go_sem] theorem tsz162 : tsz Proofs.Tryz.prog 162 = 16 := by kernel_rfl
@[go_sem] theorem tagg162 : tagg Proofs.Tryz.prog 162 = some true := by kernel_rfl
@[go_sem] theorem tby162 : tby Proofs.Tryz.prog 162 = 128 := by kernel_rfl
@[go_sem] theorem tzero162 : tzero Proofs.Tryz.prog 162 = some (.agg [.int .i64 0, .int .i64 0, .int .i64 0, .int .i64 0, .int .i64 0, .int .i64 0, .int .i64 0, .int .i64 0, .int .i64 0, .int .i64 0, .int .i64 0, .int .i64 0, .int .i64 0, .int .i64 0, .int .i64 0, .int .i64 0]) := by kernel_rfl
@[go_sem] theorem tsz163 : tsz Proofs.Tryz.prog 163 = 25 := by kernel_rfl
@[go_sem] theorem tagg163 : tagg Proofs.Tryz.prog 163 = some true := by kernel_rfl
@[go_sem] theorem tby163 : tby Proofs.Tryz.prog 163 = 200 := by kernel_rfl
@[go_sem] theorem tzero163 : tzero Proofs.Tryz.prog 163 = some (.agg [.int .i64 0, .int .i64 0, .int .i64 0, .int .i64 0, .int .i64 0, .int .i64 0, .int .i64 0, .int .i64 0, .int .i64 0, .int .i64 0, .int .i64 0, .int .i64 0, .int .i64 0, .int .i64 0, .int .i64 0, .int .i64 0, .int .i64 0, .int .i64 0, .int .i64 0, .int .i64 0, .int .i64 0, .int .i64 0, .int .i64 0, .int .i64 0, .int .i64 0]) := by kernel_rfl
@[go_sem] theorem tsz164 : tsz Proofs.Tryz.prog 164 = 25 := by kernel_rfl
@[go_sem] theorem tagg164 : tagg Proofs.Tryz.prog 164 = some true := by kernel_rfl
@[go_sem] theorem tby164 : tby Proofs.Tryz.prog 164 = 200 := by kernel_rfl
@[go_sem] theorem tzero164 : tzero Proofs.Tryz.prog 164 = some (.agg [.int .i64 0, .int .i64 0, .int .i64 0, .int .i64 0, .int .i64 0, .int .i64 0, .int .i64 0, .int .i64 0, .int .i64 0, .int .i64 0, .int .i64 0, .int .i64 0, .int .i64 0, .int .i64 0, .int .i64 0, .int .i64 0, .int .i64 0, .int .i64 0, .int .i64 0, .int .i64 0, .int .i64 0, .int .i64 0, .int .i64 0, .int .i64 0, .int .i64 0]) := by kernel_rfl
@[go_sem] theorem tsz166 : tsz Proofs.Tryz.prog 166 = 1 := by kernel_rfl
@[go_sem] theorem tagg166 : tagg Proofs.Tryz.prog 166 = some false := by kernel_rfl
@[go_sem] theorem tby166 : tby Proofs.Tryz.prog 166 = 8 := by kernel_rfl
@[go_sem] theorem tzero166 : tzero Proofs.Tryz.prog 166 = some (.nilfn) := by kernel_rfl
@[go_sem] theorem tsz167 : tsz Proofs.Tryz.prog 167 = 1 := by kernel_rfl
@[go_sem] theorem tagg167 : tagg Proofs.Tryz.prog 167 = some false := by kernel_rfl
@[go_sem] theorem tby167 : tby Proofs.Tryz.prog 167 = 8 := by kernel_rfl
@[go_sem] theorem tzero167 : tzero Proofs.Tryz.prog 167 = some (.nilfn) := by kernel_rfl
@[go_sem] theorem tsz170 : tsz Proofs.Tryz.prog 170 = 1 := by kernel_rfl
@[go_sem] theorem tagg170 : tagg Proofs.Tryz.prog 170 = some false := by kernel_rfl
@[go_sem] theorem tby170 : tby Proofs.Tryz.prog 170 = 8 := by kernel_rfl
@[go_sem] theorem tzero170 : tzero Proofs.Tryz.prog 170 = some (.nilfn) := by kernel_rfl
@[go_sem] theorem tsz171 : tsz Proofs.Tryz.prog 171 = 1 := by kernel_rfl
@[go_sem] theorem tagg171 : tagg Proofs.Tryz.prog 171 = some false := by kernel_rfl
@[go_sem] theorem tby171 : tby Proofs.Tryz.prog 171 = 8 := by kernel_rfl
@[go_sem] theorem tzero171 : tzero Proofs.Tryz.prog 171 = some (.nilfn) := by kernel_rfl
@[go_sem] theorem tsz172 : tsz Proofs.Tryz.prog 172 = 1 := by kernel_rfl
@[go_sem] theorem tagg172 : tagg Proofs.Tryz.prog 172 = some false := by kernel_rfl
@[go_sem] theorem tby172 : tby Proofs.Tryz.prog 172 = 8 := by kernel_rfl
@[go_sem] theorem tzero172 : tzero Proofs.Tryz.prog 172 = some (.nilfn) := by kernel_rfl
@[go_sem] theorem tsz173 : tsz Proofs.Tryz.prog 173 = 3 := by kernel_rfl
@[go_sem] theorem tagg173 : tagg Proofs.Tryz.prog 173 = some true := by kernel_rfl
@[go_sem] theorem tby173 : tby Proofs.Tryz.prog 173 = 48 := by kernel_rfl
@[go_sem] theorem tzero173 : tzero Proofs.Tryz.prog 173 = some (.agg [.str [], .int .i64 0, .nils]) := by kernel_rfl
@[go_sem] theorem tsz174 : tsz Proofs.Tryz.prog 174 = 3 := by kernel_rfl
@[go_sem] theorem tagg174 : tagg Proofs.Tryz.prog 174 = some true := by kernel_rfl
@[go_sem] theorem tby174 : tby Proofs.Tryz.prog 174 = 48 := by kernel_rfl
@[go_sem] theorem tzero174 : tzero Proofs.Tryz.prog 174 = some (.agg [.str [], .int .i64 0, .nils]) := by kernel_rfl
@[go_sem] theorem tsz175 : tsz Proofs.Tryz.prog 175 = 1 := by kernel_rfl
@[go_sem] theorem tagg175 : tagg Proofs.Tryz.prog 175 = some false := by kernel_rfl
@[go_sem] theorem tby175 : tby Proofs.Tryz.prog 175 = 8 := by kernel_rfl
@[go_sem] theorem tzero175 : tzero Proofs.Tryz.prog 175 = some (.nilp) := by kernel_rfl
@[go_sem] theorem tsz176 : tsz Proofs.Tryz.prog 176 = 1 := by kernel_rfl
@[go_sem] theorem tagg176 : tagg Proofs.Tryz.prog 176 = some false := by kernel_rfl
@[go_sem] theorem tby176 : tby Proofs.Tryz.prog 176 = 8 := by kernel_rfl
@[go_sem] theorem tzero176 : tzero Proofs.Tryz.prog 176 = some (.nilfn) := by kernel_rfl
@[go_sem] theorem tsz177 : tsz Proofs.Tryz.prog 177 = 1 := by kernel_rfl
@[go_sem] theorem tagg177 : tagg Proofs.Tryz.prog 177 = some false := by kernel_rfl
@[go_sem] theorem tby177 : tby Proofs.Tryz.prog 177 = 8 := by kernel_rfl
@[go_sem] theorem tzero177 : tzero Proofs.Tryz.prog 177 = some (.nilfn) := by kernel_rfl
@[go_sem] theorem tsz189 : tsz Proofs.Tryz.prog 189 = 1 := by kernel_rfl
@[go_sem] theorem tagg189 : tagg Proofs.Tryz.prog 189 = some false := by kernel_rfl
@[go_sem] theorem tby189 : tby Proofs.Tryz.prog 189 = 8 := by kernel_rfl
@[go_sem] theorem tzero189 : tzero Proofs.Tryz.prog 189 = some (.nilfn) := by kernel_rfl
@[go_sem] theorem tsz190 : tsz Proofs.Tryz.prog 190 = 1 := by kernel_rfl
@[go_sem] theorem tagg190 : tagg Proofs.Tryz.prog 190 = some false := by kernel_rfl
@[go_sem] theorem tby190 : tby Proofs.Tryz.prog 190 = 8 := by kernel_rfl
@[go_sem] theorem tzero190 : tzero Proofs.Tryz.prog 190 = some (.nilfn) := by kernel_rfl
@[go_sem] theorem tsz213 : tsz Proofs.Tryz.prog 213 = 1 := by kernel_rfl
@[go_sem] theorem tagg213 : tagg Proofs.Tryz.prog 213 = some false := by kernel_rfl
@[go_sem] theorem tby213 : tby Proofs.Tryz.prog 213 = 8 := by kernel_rfl
@[go_sem] theorem tzero213 : tzero Proofs.Tryz.prog 213 = some (.nilfn) := by kernel_rfl
@[go_sem] theorem tsz214 : tsz Proofs.Tryz.prog 214 = 1 := by kernel_rfl
@[go_sem] theorem tagg214 : tagg Proofs.Tryz.prog 214 = some false := by kernel_rfl
@[go_sem] theorem tby214 : tby Proofs.Tryz.prog 214 = 24 := by kernel_rfl
@[go_sem] theorem tzero214 : tzero Proofs.Tryz.prog 214 = some (.nils) := by kernel_rfl
@[go_sem] theorem tsz215 : tsz Proofs.Tryz.prog 215 = 1 := by kernel_rfl
@[go_sem] theorem tagg215 : tagg Proofs.Tryz.prog 215 = some false := by kernel_rfl
@[go_sem] theorem tby215 : tby Proofs.Tryz.prog 215 = 8 := by kernel_rfl
@[go_sem] theorem tzero215 : tzero Proofs.Tryz.prog 215 = some (.nilfn) := by kernel_rfl
@[go_sem] theorem tsz216 : tsz Proofs.Tryz.prog 216 = 1 := by kernel_rfl
@[go_sem] theorem tagg216 : tagg Proofs.Tryz.prog 216 = some false := by kernel_rfl
@[go_sem] theorem tby216 : tby Proofs.Tryz.prog 216 = 8 := by kernel_rfl
@[go_sem] theorem tzero216 : tzero Proofs.Tryz.prog 216 = some (.nilfn) := by kernel_rfl
@[go_sem] theorem tsz217 : tsz Proofs.Tryz.prog 217 = 4 := by kernel_rfl
@[go_sem] theorem tagg217 : tagg Proofs.Tryz.prog 217 = some true := by kernel_rfl
@[go_sem] theorem tby217 : tby Proofs.Tryz.prog 217 = 40 := by kernel_rfl
@[go_sem] theorem tzero217 : tzero Proofs.Tryz.prog 217 = some (.agg [.str [], .int .i64 0, .nilfn, .nilfn]) := by kernel_rfl
@[go_sem] theorem tsz218 : tsz Proofs.Tryz.prog 218 = 4 := by kernel_rfl
@[go_sem] theorem tagg218 : tagg Proofs.Tryz.prog 218 = some true := by kernel_rfl
@[go_sem] theorem tby218 : tby Proofs.Tryz.prog 218 = 40 := by kernel_rfl
@[go_sem] theorem tzero218 : tzero Proofs.Tryz.prog 218 = some (.agg [.str [], .int .i64 0, .nilfn, .nilfn]) := by kernel_rfl
@[go_sem] theorem tsz220 : tsz Proofs.Tryz.prog 220 = 1 := by kernel_rfl
@[go_sem] theorem tagg220 : tagg Proofs.Tryz.prog 220 = some false := by kernel_rfl
@[go_sem] theorem tby220 : tby Proofs.Tryz.prog 220 = 8 := by kernel_rfl
@[go_sem] theorem tsz223 : tsz Proofs.Tryz.prog 223 = 1 := by kernel_rfl
@[go_sem] theorem tagg223 : tagg Proofs.Tryz.prog 223 = some false := by kernel_rfl
@[go_sem] theorem tby223 : tby Proofs.Tryz.prog 223 = 8 := by kernel_rfl
@[go_sem] theorem tzero223 : tzero Proofs.Tryz.prog 223 = some (.nilfn) := by kernel_rfl
@[go_sem] theorem tsz226 : tsz Proofs.Tryz.prog 226 = 2 := by kernel_rfl
@[go_sem] theorem tagg226 : tagg Proofs.Tryz.prog 226 = some true := by kernel_rfl
@[go_sem] theorem tby226 : tby Proofs.Tryz.prog 226 = 32 := by kernel_rfl
@[go_sem] theorem tzero226 : tzero Proofs.Tryz.prog 226 = some (.agg [.str [], .str []]) := by kernel_rfl
@[go_sem] theorem tsz227 : tsz Proofs.Tryz.prog 227 = 1 := by kernel_rfl
@[go_sem] theorem tagg227 : tagg Proofs.Tryz.prog 227 = some false := by kernel_rfl
@[go_sem] theorem tby227 : tby Proofs.Tryz.prog 227 = 8 := by kernel_rfl
@[go_sem] theorem tzero227 : tzero Proofs.Tryz.prog 227 = some (.nilfn) := by kernel_rfl
@[go_sem] theorem tsz228 : tsz Proofs.Tryz.prog 228 = 1 := by kernel_rfl
@[go_sem] theorem tagg228 : tagg Proofs.Tryz.prog 228 = some false := by kernel_rfl
@[go_sem] theorem tby228 : tby Proofs.Tryz.prog 228 = 8 := by kernel_rfl
@[go_sem] theorem tzero228 : tzero Proofs.Tryz.prog 228 = some (.nilp) := by kernel_rfl
@[go_sem] theorem tsz229 : tsz Proofs.Tryz.prog 229 = 1 := by kernel_rfl
@[go_sem] theorem tagg229 : tagg Proofs.Tryz.prog 229 = some false := by kernel_rfl
@[go_sem] theorem tby229 : tby Proofs.Tryz.prog 229 = 8 := by kernel_rfl
@[go_sem] theorem tzero229 : tzero Proofs.Tryz.prog 229 = some (.nilfn) := by kernel_rfl
@[go_sem] theorem tsz230 : tsz Proofs.Tryz.prog 230 = 1 := by kernel_rfl
@[go_sem] theorem tagg230 : tagg Proofs.Tryz.prog 230 = some false := by kernel_rfl
@[go_sem] theorem tby230 : tby Proofs.Tryz.prog 230 = 8 := by kernel_rfl
@[go_sem] theorem tzero230 : tzero Proofs.Tryz.prog 230 = some (.nilfn) := by kernel_rfl
@[go_sem] theorem tsz231 : tsz Proofs.Tryz.prog 231 = 1 := by kernel_rfl
@[go_sem] theorem tagg231 : tagg Proofs.Tryz.prog 231 = some false := by kernel_rfl
@[go_sem] theorem tby231 : tby Proofs.Tryz.prog 231 = 8 := by kernel_rfl
@[go_sem] theorem tzero231 : tzero Proofs.Tryz.prog 231 = some (.nilfn) := by kernel_rfl
@[go_sem] theorem tsz232 : tsz Proofs.Tryz.prog 232 = 1 := by kernel_rfl
@[go_sem] theorem tagg232 : tagg Proofs.Tryz.prog 232 = some false := by kernel_rfl
@[go_sem] theorem tby232 : tby Proofs.Tryz.prog 232 = 8 := by kernel_rfl
@[go_sem] theorem tzero232 : tzero Proofs.Tryz.prog 232 = some (.nilfn) := by kernel_rfl
@[go_sem] theorem tsz233 : tsz Proofs.Tryz.prog 233 = 6 := by kernel_rfl
@[go_sem] theorem tagg233 : tagg Proofs.Tryz.prog 233 = some true := by kernel_rfl
@[go_sem] theorem tby233 : tby Proofs.Tryz.prog 233 = 64 := by kernel_rfl
@[go_sem] theorem tzero233 : tzero Proofs.Tryz.prog 233 = some (.agg [.str [], .str [], .int .i64 0, .int .i64 0, .int .i64 0, .int .i64 0]) := by kernel_rfl
@[go_sem] theorem tsz234 : tsz Proofs.Tryz.prog 234 = 6 := by kernel_rfl
@[go_sem] theorem tagg234 : tagg Proofs.Tryz.prog 234 = some true := by kernel_rfl
@[go_sem] theorem tby234 : tby Proofs.Tryz.prog 234 = 64 := by kernel_rfl
@[go_sem] theorem tzero234 : tzero Proofs.Tryz.prog 234 = some (.agg [.str [], .str [], .int .i64 0, .int .i64 0, .int .i64 0, .int .i64 0]) := by kernel_rfl
@[go_sem] theorem tsz237 : tsz Proofs.Tryz.prog 237 = 1 := by kernel_rfl
@[go_sem] theorem tagg237 : tagg Proofs.Tryz.prog 237 = some false := by kernel_rfl
@[go_sem] theorem tby237 : tby Proofs.Tryz.prog 237 = 8 := by kernel_rfl
@[go_sem] theorem tzero237 : tzero Proofs.Tryz.prog 237 = some (.nilfn) := by kernel_rfl
@[go_sem] theorem tsz238 : tsz Proofs.Tryz.prog 238 = 1 := by kernel_rfl
@[go_sem] theorem tagg238 : tagg Proofs.Tryz.prog 238 = some false := by kernel_rfl
@[go_sem] theorem tby238 : tby Proofs.Tryz.prog 238 = 8 := by kernel_rfl
@[go_sem] theorem tzero238 : tzero Proofs.Tryz.prog 238 = some (.nilfn) := by kernel_rfl
@[go_sem] theorem tsz241 : tsz Proofs.Tryz.prog 241 = 1 := by kernel_rfl
@[go_sem] theorem tagg241 : tagg Proofs.Tryz.prog 241 = some false := by kernel_rfl
@[go_sem] theorem tby241 : tby Proofs.Tryz.prog 241 = 8 := by kernel_rfl
@[go_sem] theorem tzero241 : tzero Proofs.Tryz.prog 241 = some (.nilfn) := by kernel_rfl
@[go_sem] theorem tsz260 : tsz Proofs.Tryz.prog 260 = 1 := by kernel_rfl
@[go_sem] theorem tagg260 : tagg Proofs.Tryz.prog 260 = some false := by kernel_rfl
@[go_sem] theorem tby260 : tby Proofs.Tryz.prog 260 = 8 := by kernel_rfl
@[go_sem] theorem tzero260 : tzero Proofs.Tryz.prog 260 = some (.nilfn) := by kernel_rfl
@[go_sem] theorem tsz261 : tsz Proofs.Tryz.prog 261 = 4 := by kernel_rfl
@[go_sem] theorem tagg261 : tagg Proofs.Tryz.prog 261 = some true := by kernel_rfl
@[go_sem] theorem tby261 : tby Proofs.Tryz.prog 261 = 48 := by kernel_rfl
@[go_sem] theorem tzero261 : tzero Proofs.Tryz.prog 261 = some (.agg [.str [], .str [], .int .i64 0, .bool false]) := by kernel_rfl
@[go_sem] theorem tsz262 : tsz Proofs.Tryz.prog 262 = 4 := by kernel_rfl
@[go_sem] theorem tagg262 : tagg Proofs.Tryz.prog 262 = some true := by kernel_rfl
@[go_sem] theorem tby262 : tby Proofs.Tryz.prog 262 = 48 := by kernel_rfl
@[go_sem] theorem tzero262 : tzero Proofs.Tryz.prog 262 = some (.agg [.str [], .str [], .int .i64 0, .bool false]) := by kernel_rfl
@[go_sem] theorem tsz263 : tsz Proofs.Tryz.prog 263 = 1 := by kernel_rfl
@[go_sem] theorem tagg263 : tagg Proofs.Tryz.prog 263 = some false := by kernel_rfl
@[go_sem] theorem tby263 : tby Proofs.Tryz.prog 263 = 8 := by kernel_rfl
@[go_sem] theorem tzero263 : tzero Proofs.Tryz.prog 263 = some (.nilp) := by kernel_rfl
@[go_sem] theorem tsz264 : tsz Proofs.Tryz.prog 264 = 1 := by kernel_rfl
@[go_sem] theorem tagg264 : tagg Proofs.Tryz.prog 264 = some false := by kernel_rfl
@[go_sem] theorem tby264 : tby Proofs.Tryz.prog 264 = 8 := by kernel_rfl
@[go_sem] theorem tzero264 : tzero Proofs.Tryz.prog 264 = some (.nilfn) := by kernel_rfl
@[go_sem] theorem tsz265 : tsz Proofs.Tryz.prog 265 = 1 := by kernel_rfl
@[go_sem] theorem tagg265 : tagg Proofs.Tryz.prog 265 = some false := by kernel_rfl
@[go_sem] theorem tby265 : tby Proofs.Tryz.prog 265 = 8 := by kernel_rfl
@[go_sem] theorem tzero265 : tzero Proofs.Tryz.prog 265 = some (.nilp) := by kernel_rfl
@[go_sem] theorem tsz266 : tsz Proofs.Tryz.prog 266 = 1 := by kernel_rfl
@[go_sem] theorem tagg266 : tagg Proofs.Tryz.prog 266 = some false := by kernel_rfl
@[go_sem] theorem tby266 : tby Proofs.Tryz.prog 266 = 8 := by kernel_rfl
@[go_sem] theorem tzero266 : tzero Proofs.Tryz.prog 266 = some (.nilfn) := by kernel_rfl
@[go_sem] theorem tsz273 : tsz Proofs.Tryz.prog 273 = 1 := by kernel_rfl
@[go_sem] theorem tagg273 : tagg Proofs.Tryz.prog 273 = some false := by kernel_rfl
@[go_sem] theorem tby273 : tby Proofs.Tryz.prog 273 = 8 := by kernel_rfl
@[go_sem] theorem tzero273 : tzero Proofs.Tryz.prog 273 = some (.nilfn) := by kernel_rfl
@[go_sem] theorem tsz285 : tsz Proofs.Tryz.prog 285 = 3 := by kernel_rfl
@[go_sem] theorem tagg285 : tagg Proofs.Tryz.prog 285 = some true := by kernel_rfl
@[go_sem] theorem tby285 : tby Proofs.Tryz.prog 285 = 32 := by kernel_rfl
@[go_sem] theorem tzero285 : tzero Proofs.Tryz.prog 285 = some (.agg [.str [], .int .i64 0, .int .i64 0]) := by kernel_rfl
@[go_sem] theorem tsz286 : tsz Proofs.Tryz.prog 286 = 3 := by kernel_rfl
@[go_sem] theorem tagg286 : tagg Proofs.Tryz.prog 286 = some true := by kernel_rfl
@[go_sem] theorem tby286 : tby Proofs.Tryz.prog 286 = 32 := by kernel_rfl
@[go_sem] theorem tzero286 : tzero Proofs.Tryz.prog 286 = some (.agg [.str [], .int .i64 0, .int .i64 0]) := by kernel_rfl
@[go_sem] theorem tsz287 : tsz Proofs.Tryz.prog 287 = 1 := by kernel_rfl
@[go_sem] theorem tagg287 : tagg Proofs.Tryz.prog 287 = some false := by kernel_rfl
@[go_sem] theorem tby287 : tby Proofs.Tryz.prog 287 = 8 := by kernel_rfl
@[go_sem] theorem tzero287 : tzero Proofs.Tryz.prog 287 = some (.nilp) := by kernel_rfl
@[go_sem] theorem tsz288 : tsz Proofs.Tryz.prog 288 = 1 := by kernel_rfl
@[go_sem] theorem tagg288 : tagg Proofs.Tryz.prog 288 = some false := by kernel_rfl
@[go_sem] theorem tby288 : tby Proofs.Tryz.prog 288 = 8 := by kernel_rfl
@[go_sem] theorem tzero288 : tzero Proofs.Tryz.prog 288 = some (.nilfn) := by kernel_rfl
@[go_sem] theorem tsz289 : tsz Proofs.Tryz.prog 289 = 1 := by kernel_rfl
@[go_sem] theorem tagg289 : tagg Proofs.Tryz.prog 289 = some false := by kernel_rfl
@[go_sem] theorem tby289 : tby Proofs.Tryz.prog 289 = 8 := by kernel_rfl
@[go_sem] theorem tzero289 : tzero Proofs.Tryz.prog 289 = some (.nilfn) := by kernel_rfl
@[go_sem] theorem tsz290 : tsz Proofs.Tryz.prog 290 = 1 := by kernel_rfl
@[go_sem] theorem tagg290 : tagg Proofs.Tryz.prog 290 = some false := by kernel_rfl
@[go_sem] theorem tby290 : tby Proofs.Tryz.prog 290 = 8 := by kernel_rfl
@[go_sem] theorem tzero290 : tzero Proofs.Tryz.prog 290 = some (.nilp) := by kernel_rfl
@[go_sem] theorem tsz291 : tsz Proofs.Tryz.prog 291 = 1 := by kernel_rfl
@[go_sem] theorem tagg291 : tagg Proofs.Tryz.prog 291 = some false := by kernel_rfl
@[go_sem] theorem tby291 : tby Proofs.Tryz.prog 291 = 8 := by kernel_rfl
@[go_sem] theorem tzero291 : tzero Proofs.Tryz.prog 291 = some (.nilfn) := by kernel_rfl
@[go_sem] theorem tsz293 : tsz Proofs.Tryz.prog 293 = 1 := by kernel_rfl
@[go_sem] theorem tagg293 : tagg Proofs.Tryz.prog 293 = some false := by kernel_rfl
@[go_sem] theorem tby293 : tby Proofs.Tryz.prog 293 = 8 := by kernel_rfl
@[go_sem] theorem tzero293 : tzero Proofs.Tryz.prog 293 = some (.nilfn) := by kernel_rfl
@[go_sem] theorem tsz294 : tsz Proofs.Tryz.prog 294 = 1 := by kernel_rfl
@[go_sem] theorem tagg294 : tagg Proofs.Tryz.prog 294 = some false := by kernel_rfl
@[go_sem] theorem tby294 : tby Proofs.Tryz.prog 294 = 8 := by kernel_rfl
@[go_sem] theorem tzero294 : tzero Proofs.Tryz.prog 294 = some (.nilfn) := by kernel_rfl
@[go_sem] theorem tsz296 : tsz Proofs.Tryz.prog 296 = 1 := by kernel_rfl
@[go_sem] theorem tagg296 : tagg Proofs.Tryz.prog 296 = some false := by kernel_rfl
@[go_sem] theorem tby296 : tby Proofs.Tryz.prog 296 = 8 := by kernel_rfl
@[go_sem] theorem tzero296 : tzero Proofs.Tryz.prog 296 = some (.nilfn) := by kernel_rfl
@[go_sem] theorem tsz298 : tsz Proofs.Tryz.prog 298 = 1 := by kernel_rfl
@[go_sem] theorem tagg298 : tagg Proofs.Tryz.prog 298 = some false := by kernel_rfl
@[go_sem] theorem tby298 : tby Proofs.Tryz.prog 298 = 8 := by kernel_rfl
@[go_sem] theorem tzero298 : tzero Proofs.Tryz.prog 298 = some (.nilfn) := by kernel_rfl
@[go_sem] theorem tsz300 : tsz Proofs.Tryz.prog 300 = 1 := by kernel_rfl
@[go_sem] theorem tagg300 : tagg Proofs.Tryz.prog 300 = some false := by kernel_rfl
@[go_sem] theorem tby300 : tby Proofs.Tryz.prog 300 = 8 := by kernel_rfl
@[go_sem] theorem tzero300 : tzero Proofs.Tryz.prog 300 = some (.nilfn) := by kernel_rfl
@[go_sem] theorem tsz302 : tsz Proofs.Tryz.prog 302 = 1 := by kernel_rfl
@[go_sem] theorem tagg302 : tagg Proofs.Tryz.prog 302 = some false := by kernel_rfl
@[go_sem] theorem tby302 : tby Proofs.Tryz.prog 302 = 8 := by kernel_rfl
@[go_sem] theorem tzero302 : tzero Proofs.Tryz.prog 302 = some (.nilfn) := by kernel_rfl
@[go_sem] theorem tsz304 : tsz Proofs.Tryz.prog 304 = 1 := by kernel_rfl
@[go_sem] theorem tagg304 : tagg Proofs.Tryz.prog 304 = some false := by kernel_rfl
@[go_sem] theorem tby304 : tby Proofs.Tryz.prog 304 = 8 := by kernel_rfl
@[go_sem] theorem tzero304 : tzero Proofs.Tryz.prog 304 = some (.nilfn) := by kernel_rfl
@[go_sem] theorem tsz305 : tsz Proofs.Tryz.prog 305 = 1 := by kernel_rfl
@[go_sem] theorem tagg305 : tagg Proofs.Tryz.prog 305 = some false := by kernel_rfl
@[go_sem] theorem tby305 : tby Proofs.Tryz.prog 305 = 8 := by kernel_rfl
@[go_sem] theorem tzero305 : tzero Proofs.Tryz.prog 305 = some (.nilfn) := by kernel_rfl
@[go_sem] theorem tsz308 : tsz Proofs.Tryz.prog 308 = 1 := by kernel_rfl
@[go_sem] theorem tagg308 : tagg Proofs.Tryz.prog 308 = some false := by kernel_rfl
@[go_sem] theorem tby308 : tby Proofs.Tryz.prog 308 = 8 := by kernel_rfl
@[go_sem] theorem tzero308 : tzero Proofs.Tryz.prog 308 = some (.nilfn) := by kernel_rfl
@[go_sem] theorem tsz322 : tsz Proofs.Tryz.prog 322 = 1 := by kernel_rfl
@[go_sem] theorem tagg322 : tagg Proofs.Tryz.prog 322 = some false := by kernel_rfl
@[go_sem] theorem tby322 : tby Proofs.Tryz.prog 322 = 8 := by kernel_rfl
@[go_sem] theorem tzero322 : tzero Proofs.Tryz.prog 322 = some (.nilfn) := by kernel_rfl
@[go_sem] theorem tsz330 : tsz Proofs.Tryz.prog 330 = 1 := by kernel_rfl
@[go_sem] theorem tagg330 : tagg Proofs.Tryz.prog 330 = some false := by kernel_rfl
@[go_sem] theorem tby330 : tby Proofs.Tryz.prog 330 = 8 := by kernel_rfl
@[go_sem] theorem tzero330 : tzero Proofs.Tryz.prog 330 = some (.nilfn) := by kernel_rfl
@[go_sem] theorem tsz332 : tsz Proofs.Tryz.prog 332 = 1 := by kernel_rfl
@[go_sem] theorem tagg332 : tagg Proofs.Tryz.prog 332 = some false := by kernel_rfl
@[go_sem] theorem tby332 : tby Proofs.Tryz.prog 332 = 24 := by kernel_rfl
@[go_sem] theorem tzero332 : tzero Proofs.Tryz.prog 332 = some (.nils) := by kernel_rfl
@[go_sem] theorem tsz334 : tsz Proofs.Tryz.prog 334 = 1 := by kernel_rfl
@[go_sem] theorem tagg334 : tagg Proofs.Tryz.prog 334 = some false := by kernel_rfl
@[go_sem] theorem tby334 : tby Proofs.Tryz.prog 334 = 8 := by kernel_rfl
@[go_sem] theorem tzero334 : tzero Proofs.Tryz.prog 334 = some (.nilfn) := by kernel_rfl
@[go_sem] theorem tsz347 : tsz Proofs.Tryz.prog 347 = 10 := by kernel_rfl
@[go_sem] theorem tagg347 : tagg Proofs.Tryz.prog 347 = some true := by kernel_rfl
@[go_sem] theorem tby347 : tby Proofs.Tryz.prog 347 = 80 := by kernel_rfl
@[go_sem] theorem tzero347 : tzero Proofs.Tryz.prog 347 = some (.agg [.int .i64 0, .int .i64 0, .int .i64 0, .int .i64 0, .int .i64 0, .int .i64 0, .int .i64 0, .int .i64 0, .int .i64 0, .int .i64 0]) := by kernel_rfl
@[go_sem] theorem tsz364 : tsz Proofs.Tryz.prog 364 = 1 := by kernel_rfl
@[go_sem] theorem tagg364 : tagg Proofs.Tryz.prog 364 = some false := by kernel_rfl
@[go_sem] theorem tby364 : tby Proofs.Tryz.prog 364 = 8 := by kernel_rfl
@[go_sem] theorem tzero364 : tzero Proofs.Tryz.prog 364 = some (.nilp) := by kernel_rfl
@[go_sem] theorem tsz371 : tsz Proofs.Tryz.prog 371 = 1 := by kernel_rfl
@[go_sem] theorem tagg371 : tagg Proofs.Tryz.prog 371 = some false := by kernel_rfl
@[go_sem] theorem tby371 : tby Proofs.Tryz.prog 371 = 8 := by kernel_rfl
@[go_sem] theorem tzero371 : tzero Proofs.Tryz.prog 371 = some (.nilp) := by kernel_rfl
@[go_sem] theorem tsz387 : tsz Proofs.Tryz.prog 387 = 0 := by kernel_rfl
@[go_sem] theorem tagg387 : tagg Proofs.Tryz.prog 387 = some true := by kernel_rfl
@[go_sem] theorem tby387 : tby Proofs.Tryz.prog 387 = 0 := by kernel_rfl
@[go_sem] theorem tzero387 : tzero Proofs.Tryz.prog 387 = some (.agg []) := by kernel_rfl
@[go_sem] theorem tsz388 : tsz Proofs.Tryz.prog 388 = 0 := by kernel_rfl
@[go_sem] theorem tagg388 : tagg Proofs.Tryz.prog 388 = some true := by kernel_rfl
@[go_sem] theorem tby388 : tby Proofs.Tryz.prog 388 = 0 := by kernel_rfl
@[go_sem] theorem tzero388 : tzero Proofs.Tryz.prog 388 = some (.agg []) := by kernel_rfl
@[go_sem] theorem tsz389 : tsz Proofs.Tryz.prog 389 = 0 := by kernel_rfl
@[go_sem] theorem tagg389 : tagg Proofs.Tryz.prog 389 = some true := by kernel_rfl
@[go_sem] theorem tby389 : tby Proofs.Tryz.prog 389 = 0 := by kernel_rfl
@[go_sem] theorem tzero389 : tzero Proofs.Tryz.prog 389 = some (.agg []) := by kernel_rfl
@[go_sem] theorem tsz390 : tsz Proofs.Tryz.prog 390 = 1 := by kernel_rfl
@[go_sem] theorem tagg390 : tagg Proofs.Tryz.prog 390 = some false := by kernel_rfl
@[go_sem] theorem tby390 : tby Proofs.Tryz.prog 390 = 1 := by kernel_rfl
@[go_sem] theorem tzero390 : tzero Proofs.Tryz.prog 390 = some (.int .u8 0) := by kernel_rfl
@[go_sem] theorem tsz391 : tsz Proofs.Tryz.prog 391 = 1 := by kernel_rfl
@[go_sem] theorem tagg391 : tagg Proofs.Tryz.prog 391 = some false := by kernel_rfl
@[go_sem] theorem tby391 : tby Proofs.Tryz.prog 391 = 1 := by kernel_rfl
@[go_sem] theorem tzero391 : tzero Proofs.Tryz.prog 391 = some (.int .u8 0) := by kernel_rfl
@[go_sem] theorem tsz392 : tsz Proofs.Tryz.prog 392 = 1 := by kernel_rfl
@[go_sem] theorem tagg392 : tagg Proofs.Tryz.prog 392 = some false := by kernel_rfl
@[go_sem] theorem tby392 : tby Proofs.Tryz.prog 392 = 8 := by kernel_rfl
@[go_sem] theorem tzero392 : tzero Proofs.Tryz.prog 392 = some (.nilfn) := by kernel_rfl
@[go_sem] theorem tsz393 : tsz Proofs.Tryz.prog 393 = 1 := by kernel_rfl
@[go_sem] theorem tagg393 : tagg Proofs.Tryz.prog 393 = some false := by kernel_rfl
@[go_sem] theorem tby393 : tby Proofs.Tryz.prog 393 = 4 := by kernel_rfl
@[go_sem] theorem tzero393 : tzero Proofs.Tryz.prog 393 = some (.int .i32 0) := by kernel_rfl
@[go_sem] theorem tsz394 : tsz Proofs.Tryz.prog 394 = 1 := by kernel_rfl
@[go_sem] theorem tagg394 : tagg Proofs.Tryz.prog 394 = some false := by kernel_rfl
@[go_sem] theorem tby394 : tby Proofs.Tryz.prog 394 = 4 := by kernel_rfl
@[go_sem] theorem tzero394 : tzero Proofs.Tryz.prog 394 = some (.int .i32 0) := by kernel_rfl
@[go_sem] theorem tsz395 : tsz Proofs.Tryz.prog 395 = 11 := by kernel_rfl
@[go_sem] theorem tagg395 : tagg Proofs.Tryz.prog 395 = some true := by kernel_rfl
@[go_sem] theorem tby395 : tby Proofs.Tryz.prog 395 = 48 := by kernel_rfl
@[go_sem] theorem tzero395 : tzero Proofs.Tryz.prog 395 = some (.agg [.int .u64 0, .int .u64 0, .int .u32 0, .int .u8 0, .int .u8 0, .int .u8 0, .int .u8 0, .nilfn, .nilp, .int .i32 0, .int .i32 0]) := by kernel_rfl
@[go_sem] theorem tsz396 : tsz Proofs.Tryz.prog 396 = 11 := by kernel_rfl
@[go_sem] theorem tagg396 : tagg Proofs.Tryz.prog 396 = some true := by kernel_rfl
@[go_sem] theorem tby396 : tby Proofs.Tryz.prog 396 = 48 := by kernel_rfl
@[go_sem] theorem tzero396 : tzero Proofs.Tryz.prog 396 = some (.agg [.int .u64 0, .int .u64 0, .int .u32 0, .int .u8 0, .int .u8 0, .int .u8 0, .int .u8 0, .nilfn, .nilp, .int .i32 0, .int .i32 0]) := by kernel_rfl
attribute [go_sem] Proofs.Tryz.underlying0 Proofs.Tryz.underlying1 Proofs.Tryz.underlying2 Proofs.Tryz.underlying3 Proofs.Tryz.underlying4 Proofs.Tryz.underlying5 Proofs.Tryz.underlying6 Proofs.Tryz.underlying7 Proofs.Tryz.underlying8 Proofs.Tryz.underlying9 Proofs.Tryz.underlying10 Proofs.Tryz.underlying11 Proofs.Tryz.underlying12 Proofs.Tryz.underlying16 Proofs.Tryz.underlying17 Proofs.Tryz.underlying20 Proofs.Tryz.underlying21 Proofs.Tryz.underlying23 Proofs.Tryz.underlying24 Proofs.Tryz.underlying25 Proofs.Tryz.underlying26 Proofs.Tryz.underlying27 Proofs.Tryz.underlying31 Proofs.Tryz.underlying32 Proofs.Tryz.underlying35 Proofs.Tryz.underlying38 Proofs.Tryz.underlying39 Proofs.Tryz.underlying40 Proofs.Tryz.underlying42 Proofs.Tryz.underlying44 Proofs.Tryz.underlying45 Proofs.Tryz.underlying46 Proofs.Tryz.underlying47 Proofs.Tryz.underlying48 Proofs.Tryz.underlying49 Proofs.Tryz.underlying50 Proofs.Tryz.underlying51 Proofs.Tryz.underlying55 Proofs.Tryz.underlying56 Proofs.Tryz.underlying57 Proofs.Tryz.underlying59 Proofs.Tryz.underlying60 Proofs.Tryz.underlying62 Proofs.Tryz.underlying64 Proofs.Tryz.underlying65 Proofs.Tryz.underlying66 Proofs.Tryz.underlying67 Proofs.Tryz.underlying68 Proofs.Tryz.underlying71 Proofs.Tryz.underlying72 Proofs.Tryz.underlying75 Proofs.Tryz.underlying76 Proofs.Tryz.underlying77 Proofs.Tryz.underlying78 Proofs.Tryz.underlying80 Proofs.Tryz.underlying114 Proofs.Tryz.underlying115 Proofs.Tryz.underlying125 Proofs.Tryz.underlying126 Proofs.Tryz.underlying135 Proofs.Tryz.underlying136 Proofs.Tryz.underlying137 Proofs.Tryz.underlying139 Proofs.Tryz.underlying140 Proofs.Tryz.underlying141 Proofs.Tryz.underlying144 Proofs.Tryz.underlying146 Proofs.Tryz.underlying148 Proofs.Tryz.underlying149 Proofs.Tryz.underlying150 Proofs.Tryz.underlying151 Proofs.Tryz.underlying153 Proofs.Tryz.underlying154 Proofs.Tryz.underlying155 Proofs.Tryz.underlying156 Proofs.Tryz.underlying157 Proofs.Tryz.underlying158 Proofs.Tryz.underlying160 Proofs.Tryz.underlying161 Proofs.Tryz.underlying162 Proofs.Tryz.underlying163 Proofs.Tryz.underlying164 Proofs.Tryz.underlying166 Proofs.Tryz.underlying167 Proofs.Tryz.underlying170 Proofs.Tryz.underlying171 Proofs.Tryz.underlying172 Proofs.Tryz.underlying173 Proofs.Tryz.underlying174 Proofs.Tryz.underlying175 Proofs.Tryz.underlying176 Proofs.Tryz.underlying177 Proofs.Tryz.underlying189 Proofs.Tryz.underlying190 Proofs.Tryz.underlying213 Proofs.Tryz.underlying214 Proofs.Tryz.underlying215 Proofs.Tryz.underlying216 Proofs.Tryz.underlying217 Proofs.Tryz.underlying218 Proofs.Tryz.underlying219 Proofs.Tryz.underlying220 Proofs.Tryz.underlying223 Proofs.Tryz.underlying226 Proofs.Tryz.underlying227 Proofs.Tryz.underlying228 Proofs.Tryz.underlying229 Proofs.Tryz.underlying230 Proofs.Tryz.underlying231 Proofs.Tryz.underlying232 Proofs.Tryz.underlying233 Proofs.Tryz.underlying234 Proofs.Tryz.underlying237 Proofs.Tryz.underlying238 Proofs.Tryz.underlying241 Proofs.Tryz.underlying260 Proofs.Tryz.underlying261 Proofs.Tryz.underlying262 Proofs.Tryz.underlying263 Proofs.Tryz.underlying264 Proofs.Tryz.underlying265 Proofs.Tryz.underlying266 Proofs.Tryz.underlying272 Proofs.Tryz.underlying273 Proofs.Tryz.underlying285 Proofs.Tryz.underlying286 Proofs.Tryz.underlying287 Proofs.Tryz.underlying288 Proofs.Tryz.underlying289 Proofs.Tryz.underlying290 Proofs.Tryz.underlying291 Proofs.Tryz.underlying293 Proofs.Tryz.underlying294 Proofs.Tryz.underlying296 Proofs.Tryz.underlying298 Proofs.Tryz.underlying300 Proofs.Tryz.underlying302 Proofs.Tryz.underlying304 Proofs.Tryz.underlying305 Proofs.Tryz.underlying308 Proofs.Tryz.underlying322 Proofs.Tryz.underlying330 Proofs.Tryz.underlying332 Proofs.Tryz.underlying334 Proofs.Tryz.underlying347 Proofs.Tryz.underlying364 Proofs.Tryz.underlying371 Proofs.Tryz.underlying387 Proofs.Tryz.underlying388 Proofs.Tryz.underlying389 Proofs.Tryz.underlying390 Proofs.Tryz.underlying391 Proofs.Tryz.underlying392 Proofs.Tryz.underlying393 Proofs.Tryz.underlying394 Proofs.Tryz.underlying395 Proofs.Tryz.underlying396
end Go.Fly.Tryz
