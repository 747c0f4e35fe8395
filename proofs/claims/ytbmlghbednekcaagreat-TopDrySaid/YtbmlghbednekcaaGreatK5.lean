/- Parts Tab, TaA, TaB, TaC, TaD, TaE of the proof, one behind the other. No statement is proved here. -/
import Derived.Test.YtbmlghbednekcaaGreatK2
import Derived.Test.YtbmlghbednekcaaGreatProg
import Derived.KernelRfl
import Derived.Test.YtbmlghbednekcaaGreatK3
import Derived.Test.YtbmlghbednekcaaGreatK4
set_option linter.unusedVariables false -- all
set_option linter.unusedSimpArgs false
namespace Go.Am
open Go.RowKit Go.Proofs
theorem tsz0 : tsz Tryz.prog 0 = some 1 := by kernel_rfl
theorem tagg0 : tagg Tryz.prog 0 = some false := by kernel_rfl
theorem tbytes0 : tbytes Tryz.prog 0 = some 0 := by kernel_rfl
theorem tsz1 : tsz Tryz.prog 1 = some 1 := by kernel_rfl
theorem tagg1 : tagg Tryz.prog 1 = some false := by kernel_rfl
theorem tbytes1 : tbytes Tryz.prog 1 = some 8 := by kernel_rfl
theorem tzero1 : tzero Tryz.prog 1 = some [.nilf] := by kernel_rfl
theorem tzv1 : tzv Tryz.prog 1 = some (.nilf) := by kernel_rfl
theorem tsz2 : tsz Tryz.prog 2 = some 1 := by kernel_rfl
theorem tagg2 : tagg Tryz.prog 2 = some false := by kernel_rfl
theorem tint2 : tint Tryz.prog 2 = some .i64 := by kernel_rfl
theorem tund2 : (Tryz.prog.underlying 2).isSome = true := by kernel_rfl
theorem tbytes2 : tbytes Tryz.prog 2 = some 8 := by kernel_rfl
theorem tzero2 : tzero Tryz.prog 2 = some [.int .i64 0] := by kernel_rfl
theorem tzv2 : tzv Tryz.prog 2 = some (.int .i64 0) := by kernel_rfl
theorem tsz3 : tsz Tryz.prog 3 = some 1 := by kernel_rfl
theorem tagg3 : tagg Tryz.prog 3 = some false := by kernel_rfl
theorem tint3 : tint Tryz.prog 3 = some .i64 := by kernel_rfl
theorem tund3 : (Tryz.prog.underlying 3).isSome = true := by kernel_rfl
theorem tbytes3 : tbytes Tryz.prog 3 = some 8 := by kernel_rfl
theorem tzero3 : tzero Tryz.prog 3 = some [.int .i64 0] := by kernel_rfl
theorem tzv3 : tzv Tryz.prog 3 = some (.int .i64 0) := by kernel_rfl
theorem tsz4 : tsz Tryz.prog 4 = some 1 := by kernel_rfl
theorem tagg4 : tagg Tryz.prog 4 = some false := by kernel_rfl
theorem tbytes4 : tbytes Tryz.prog 4 = some 1 := by kernel_rfl
theorem tzero4 : tzero Tryz.prog 4 = some [.bool false] := by kernel_rfl
theorem tzv4 : tzv Tryz.prog 4 = some (.bool false) := by kernel_rfl
theorem tsz5 : tsz Tryz.prog 5 = some 1 := by kernel_rfl
theorem tagg5 : tagg Tryz.prog 5 = some false := by kernel_rfl
theorem tint5 : tint Tryz.prog 5 = some .u8 := by kernel_rfl
theorem tund5 : (Tryz.prog.underlying 5).isSome = true := by kernel_rfl
theorem tbytes5 : tbytes Tryz.prog 5 = some 1 := by kernel_rfl
theorem tzero5 : tzero Tryz.prog 5 = some [.int .u8 0] := by kernel_rfl
theorem tzv5 : tzv Tryz.prog 5 = some (.int .u8 0) := by kernel_rfl
theorem tsz6 : tsz Tryz.prog 6 = some 1 := by kernel_rfl
theorem tagg6 : tagg Tryz.prog 6 = some false := by kernel_rfl
theorem tint6 : tint Tryz.prog 6 = some .u8 := by kernel_rfl
theorem tund6 : (Tryz.prog.underlying 6).isSome = true := by kernel_rfl
theorem tbytes6 : tbytes Tryz.prog 6 = some 1 := by kernel_rfl
theorem tzero6 : tzero Tryz.prog 6 = some [.int .u8 0] := by kernel_rfl
theorem tzv6 : tzv Tryz.prog 6 = some (.int .u8 0) := by kernel_rfl
theorem tsz7 : tsz Tryz.prog 7 = some 4 := by kernel_rfl
theorem tagg7 : tagg Tryz.prog 7 = some true := by kernel_rfl
theorem tarr7 : tarr Tryz.prog 7 = none := by kernel_rfl
theorem tbytes7 : tbytes Tryz.prog 7 = some 24 := by kernel_rfl
theorem tzero7 : tzero Tryz.prog 7 = some [.int .i64 0, .int .i64 0, .bool false, .int .u8 0] := by kernel_rfl
theorem tzv7 : tzv Tryz.prog 7 = some (.agg [.int .i64 0, .int .i64 0, .bool false, .int .u8 0]) := by kernel_rfl
theorem tplaces7 : tplaces Tryz.prog 7 = some [(0, 1), (1, 1), (2, 1), (3, 1)] := by kernel_rfl
theorem tfld7_0 : tfld Tryz.prog 7 0 = some (0, 2) := by kernel_rfl
theorem tfld7_1 : tfld Tryz.prog 7 1 = some (1, 3) := by kernel_rfl
theorem tfld7_2 : tfld Tryz.prog 7 2 = some (2, 4) := by kernel_rfl
theorem tfld7_3 : tfld Tryz.prog 7 3 = some (3, 6) := by kernel_rfl
theorem tsz8 : tsz Tryz.prog 8 = some 4 := by kernel_rfl
theorem tagg8 : tagg Tryz.prog 8 = some true := by kernel_rfl
theorem tarr8 : tarr Tryz.prog 8 = none := by kernel_rfl
theorem tbytes8 : tbytes Tryz.prog 8 = some 24 := by kernel_rfl
theorem tzero8 : tzero Tryz.prog 8 = some [.int .i64 0, .int .i64 0, .bool false, .int .u8 0] := by kernel_rfl
theorem tzv8 : tzv Tryz.prog 8 = some (.agg [.int .i64 0, .int .i64 0, .bool false, .int .u8 0]) := by kernel_rfl
theorem tplaces8 : tplaces Tryz.prog 8 = some [(0, 1), (1, 1), (2, 1), (3, 1)] := by kernel_rfl
theorem tfld8_0 : tfld Tryz.prog 8 0 = some (0, 2) := by kernel_rfl
theorem tfld8_1 : tfld Tryz.prog 8 1 = some (1, 3) := by kernel_rfl
theorem tfld8_2 : tfld Tryz.prog 8 2 = some (2, 4) := by kernel_rfl
theorem tfld8_3 : tfld Tryz.prog 8 3 = some (3, 6) := by kernel_rfl
theorem tsz9 : tsz Tryz.prog 9 = some 1 := by kernel_rfl
theorem tagg9 : tagg Tryz.prog 9 = some false := by kernel_rfl
theorem tbytes9 : tbytes Tryz.prog 9 = some 16 := by kernel_rfl
theorem tzero9 : tzero Tryz.prog 9 = some [.str (ByteArray.mk #[])] := by kernel_rfl
theorem tzv9 : tzv Tryz.prog 9 = some (.str (ByteArray.mk #[])) := by kernel_rfl
theorem tsz10 : tsz Tryz.prog 10 = some 1 := by kernel_rfl
theorem tagg10 : tagg Tryz.prog 10 = some false := by kernel_rfl
theorem tbytes10 : tbytes Tryz.prog 10 = some 16 := by kernel_rfl
theorem tzero10 : tzero Tryz.prog 10 = some [.str (ByteArray.mk #[])] := by kernel_rfl
theorem tzv10 : tzv Tryz.prog 10 = some (.str (ByteArray.mk #[])) := by kernel_rfl
theorem tsz11 : tsz Tryz.prog 11 = some 1 := by kernel_rfl
theorem tagg11 : tagg Tryz.prog 11 = some false := by kernel_rfl
theorem tbytes11 : tbytes Tryz.prog 11 = some 16 := by kernel_rfl
theorem tzero11 : tzero Tryz.prog 11 = some [.str (ByteArray.mk #[])] := by kernel_rfl
theorem tzv11 : tzv Tryz.prog 11 = some (.str (ByteArray.mk #[])) := by kernel_rfl
theorem tsz12 : tsz Tryz.prog 12 = some 1 := by kernel_rfl
theorem tagg12 : tagg Tryz.prog 12 = some false := by kernel_rfl
theorem tint12 : tint Tryz.prog 12 = some .u64 := by kernel_rfl
theorem tund12 : (Tryz.prog.underlying 12).isSome = true := by kernel_rfl
theorem tbytes12 : tbytes Tryz.prog 12 = some 8 := by kernel_rfl
theorem tzero12 : tzero Tryz.prog 12 = some [.int .u64 0] := by kernel_rfl
theorem tzv12 : tzv Tryz.prog 12 = some (.int .u64 0) := by kernel_rfl
theorem tsz13 : tsz Tryz.prog 13 = some 2 := by kernel_rfl
theorem tagg13 : tagg Tryz.prog 13 = some true := by kernel_rfl
theorem tarr13 : tarr Tryz.prog 13 = none := by kernel_rfl
theorem tbytes13 : tbytes Tryz.prog 13 = some 24 := by kernel_rfl
theorem tzero13 : tzero Tryz.prog 13 = some [.str (ByteArray.mk #[]), .int .u64 0] := by kernel_rfl
theorem tzv13 : tzv Tryz.prog 13 = some (.agg [.str (ByteArray.mk #[]), .int .u64 0]) := by kernel_rfl
theorem tplaces13 : tplaces Tryz.prog 13 = some [(0, 1), (1, 1)] := by kernel_rfl
theorem tfld13_0 : tfld Tryz.prog 13 0 = some (0, 9) := by kernel_rfl
theorem tfld13_1 : tfld Tryz.prog 13 1 = some (1, 12) := by kernel_rfl
theorem tsz14 : tsz Tryz.prog 14 = some 2 := by kernel_rfl
theorem tagg14 : tagg Tryz.prog 14 = some true := by kernel_rfl
theorem tarr14 : tarr Tryz.prog 14 = none := by kernel_rfl
theorem tbytes14 : tbytes Tryz.prog 14 = some 24 := by kernel_rfl
theorem tzero14 : tzero Tryz.prog 14 = some [.str (ByteArray.mk #[]), .int .u64 0] := by kernel_rfl
theorem tzv14 : tzv Tryz.prog 14 = some (.agg [.str (ByteArray.mk #[]), .int .u64 0]) := by kernel_rfl
theorem tplaces14 : tplaces Tryz.prog 14 = some [(0, 1), (1, 1)] := by kernel_rfl
theorem tfld14_0 : tfld Tryz.prog 14 0 = some (0, 9) := by kernel_rfl
theorem tfld14_1 : tfld Tryz.prog 14 1 = some (1, 12) := by kernel_rfl
theorem tsz15 : tsz Tryz.prog 15 = some 1 := by kernel_rfl
theorem tagg15 : tagg Tryz.prog 15 = some false := by kernel_rfl
theorem tbytes15 : tbytes Tryz.prog 15 = some 8 := by kernel_rfl
theorem tzero15 : tzero Tryz.prog 15 = some [.nilp] := by kernel_rfl
theorem tzv15 : tzv Tryz.prog 15 = some (.nilp) := by kernel_rfl
theorem tsz16 : tsz Tryz.prog 16 = some 1 := by kernel_rfl
theorem tagg16 : tagg Tryz.prog 16 = some false := by kernel_rfl
theorem tbytes16 : tbytes Tryz.prog 16 = some 8 := by kernel_rfl
theorem tzero16 : tzero Tryz.prog 16 = some [.nilp] := by kernel_rfl
theorem tzv16 : tzv Tryz.prog 16 = some (.nilp) := by kernel_rfl
theorem tsz17 : tsz Tryz.prog 17 = some 1 := by kernel_rfl
theorem tagg17 : tagg Tryz.prog 17 = some false := by kernel_rfl
theorem tbytes17 : tbytes Tryz.prog 17 = some 8 := by kernel_rfl
theorem tzero17 : tzero Tryz.prog 17 = some [.nilp] := by kernel_rfl
theorem tzv17 : tzv Tryz.prog 17 = some (.nilp) := by kernel_rfl
theorem tsz18 : tsz Tryz.prog 18 = some 1 := by kernel_rfl
theorem tagg18 : tagg Tryz.prog 18 = some true := by kernel_rfl
theorem tarr18 : tarr Tryz.prog 18 = none := by kernel_rfl
theorem tbytes18 : tbytes Tryz.prog 18 = some 8 := by kernel_rfl
theorem tzero18 : tzero Tryz.prog 18 = some [.nilp] := by kernel_rfl
theorem tzv18 : tzv Tryz.prog 18 = some (.agg [.nilp]) := by kernel_rfl
theorem tplaces18 : tplaces Tryz.prog 18 = some [(0, 1)] := by kernel_rfl
theorem tfld18_0 : tfld Tryz.prog 18 0 = some (0, 17) := by kernel_rfl
theorem tsz19 : tsz Tryz.prog 19 = some 1 := by kernel_rfl
theorem tagg19 : tagg Tryz.prog 19 = some true := by kernel_rfl
theorem tarr19 : tarr Tryz.prog 19 = none := by kernel_rfl
theorem tbytes19 : tbytes Tryz.prog 19 = some 8 := by kernel_rfl
theorem tzero19 : tzero Tryz.prog 19 = some [.nilp] := by kernel_rfl
theorem tzv19 : tzv Tryz.prog 19 = some (.agg [.nilp]) := by kernel_rfl
theorem tplaces19 : tplaces Tryz.prog 19 = some [(0, 1)] := by kernel_rfl
theorem tfld19_0 : tfld Tryz.prog 19 0 = some (0, 17) := by kernel_rfl
theorem tsz20 : tsz Tryz.prog 20 = some 1 := by kernel_rfl
theorem tagg20 : tagg Tryz.prog 20 = some false := by kernel_rfl
theorem tbytes20 : tbytes Tryz.prog 20 = some 16 := by kernel_rfl
theorem tsz21 : tsz Tryz.prog 21 = some 1 := by kernel_rfl
theorem tagg21 : tagg Tryz.prog 21 = some false := by kernel_rfl
theorem tint21 : tint Tryz.prog 21 = some .i32 := by kernel_rfl
theorem tund21 : (Tryz.prog.underlying 21).isSome = true := by kernel_rfl
theorem tbytes21 : tbytes Tryz.prog 21 = some 4 := by kernel_rfl
theorem tzero21 : tzero Tryz.prog 21 = some [.int .i32 0] := by kernel_rfl
theorem tzv21 : tzv Tryz.prog 21 = some (.int .i32 0) := by kernel_rfl
theorem tsz22 : tsz Tryz.prog 22 = some 1 := by kernel_rfl
theorem tagg22 : tagg Tryz.prog 22 = some false := by kernel_rfl
theorem tslice22 : tslice Tryz.prog 22 = some 68 := by kernel_rfl
theorem tbytes22 : tbytes Tryz.prog 22 = some 24 := by kernel_rfl
theorem tzero22 : tzero Tryz.prog 22 = some [.nils] := by kernel_rfl
theorem tzv22 : tzv Tryz.prog 22 = some (.nils) := by kernel_rfl
theorem tsz23 : tsz Tryz.prog 23 = some 1 := by kernel_rfl
theorem tagg23 : tagg Tryz.prog 23 = some false := by kernel_rfl
theorem tslice23 : tslice Tryz.prog 23 = some 93 := by kernel_rfl
theorem tbytes23 : tbytes Tryz.prog 23 = some 24 := by kernel_rfl
theorem tzero23 : tzero Tryz.prog 23 = some [.nils] := by kernel_rfl
theorem tzv23 : tzv Tryz.prog 23 = some (.nils) := by kernel_rfl
theorem tsz24 : tsz Tryz.prog 24 = some 2 := by kernel_rfl
theorem tagg24 : tagg Tryz.prog 24 = some true := by kernel_rfl
theorem tarr24 : tarr Tryz.prog 24 = none := by kernel_rfl
theorem tbytes24 : tbytes Tryz.prog 24 = some 16 := by kernel_rfl
theorem tzero24 : tzero Tryz.prog 24 = some [.int .i64 0, .int .i64 0] := by kernel_rfl
theorem tzv24 : tzv Tryz.prog 24 = some (.agg [.int .i64 0, .int .i64 0]) := by kernel_rfl
theorem tplaces24 : tplaces Tryz.prog 24 = some [(0, 1), (1, 1)] := by kernel_rfl
theorem tfld24_0 : tfld Tryz.prog 24 0 = some (0, 3) := by kernel_rfl
theorem tfld24_1 : tfld Tryz.prog 24 1 = some (1, 3) := by kernel_rfl
theorem tsz25 : tsz Tryz.prog 25 = some 2 := by kernel_rfl
theorem tagg25 : tagg Tryz.prog 25 = some true := by kernel_rfl
theorem tarr25 : tarr Tryz.prog 25 = none := by kernel_rfl
theorem tbytes25 : tbytes Tryz.prog 25 = some 16 := by kernel_rfl
theorem tzero25 : tzero Tryz.prog 25 = some [.int .i64 0, .int .i64 0] := by kernel_rfl
theorem tzv25 : tzv Tryz.prog 25 = some (.agg [.int .i64 0, .int .i64 0]) := by kernel_rfl
theorem tplaces25 : tplaces Tryz.prog 25 = some [(0, 1), (1, 1)] := by kernel_rfl
theorem tfld25_0 : tfld Tryz.prog 25 0 = some (0, 3) := by kernel_rfl
theorem tfld25_1 : tfld Tryz.prog 25 1 = some (1, 3) := by kernel_rfl
theorem tsz26 : tsz Tryz.prog 26 = some 5 := by kernel_rfl
theorem tagg26 : tagg Tryz.prog 26 = some true := by kernel_rfl
theorem tarr26 : tarr Tryz.prog 26 = none := by kernel_rfl
theorem tbytes26 : tbytes Tryz.prog 26 = some 72 := by kernel_rfl
theorem tzero26 : tzero Tryz.prog 26 = some [.nils, .nils, .int .i64 0, .int .i64 0, .int .i64 0] := by kernel_rfl
theorem tzv26 : tzv Tryz.prog 26 = some (.agg [.nils, .nils, .int .i64 0, .int .i64 0, .int .i64 0]) := by kernel_rfl
theorem tplaces26 : tplaces Tryz.prog 26 = some [(0, 1), (1, 1), (2, 1), (3, 2)] := by kernel_rfl
theorem tfld26_0 : tfld Tryz.prog 26 0 = some (0, 22) := by kernel_rfl
theorem tfld26_1 : tfld Tryz.prog 26 1 = some (1, 23) := by kernel_rfl
theorem tfld26_2 : tfld Tryz.prog 26 2 = some (2, 3) := by kernel_rfl
theorem tfld26_3 : tfld Tryz.prog 26 3 = some (3, 25) := by kernel_rfl
theorem tsz27 : tsz Tryz.prog 27 = some 5 := by kernel_rfl
theorem tagg27 : tagg Tryz.prog 27 = some true := by kernel_rfl
theorem tarr27 : tarr Tryz.prog 27 = none := by kernel_rfl
theorem tbytes27 : tbytes Tryz.prog 27 = some 72 := by kernel_rfl
theorem tzero27 : tzero Tryz.prog 27 = some [.nils, .nils, .int .i64 0, .int .i64 0, .int .i64 0] := by kernel_rfl
theorem tzv27 : tzv Tryz.prog 27 = some (.agg [.nils, .nils, .int .i64 0, .int .i64 0, .int .i64 0]) := by kernel_rfl
theorem tplaces27 : tplaces Tryz.prog 27 = some [(0, 1), (1, 1), (2, 1), (3, 2)] := by kernel_rfl
theorem tfld27_0 : tfld Tryz.prog 27 0 = some (0, 22) := by kernel_rfl
theorem tfld27_1 : tfld Tryz.prog 27 1 = some (1, 23) := by kernel_rfl
theorem tfld27_2 : tfld Tryz.prog 27 2 = some (2, 3) := by kernel_rfl
theorem tfld27_3 : tfld Tryz.prog 27 3 = some (3, 25) := by kernel_rfl
theorem tsz28 : tsz Tryz.prog 28 = some 1 := by kernel_rfl
theorem tagg28 : tagg Tryz.prog 28 = some false := by kernel_rfl
theorem tslice28 : tslice Tryz.prog 28 = some 3 := by kernel_rfl
theorem tbytes28 : tbytes Tryz.prog 28 = some 24 := by kernel_rfl
theorem tzero28 : tzero Tryz.prog 28 = some [.nils] := by kernel_rfl
theorem tzv28 : tzv Tryz.prog 28 = some (.nils) := by kernel_rfl
theorem tsz29 : tsz Tryz.prog 29 = some 2 := by kernel_rfl
theorem tagg29 : tagg Tryz.prog 29 = some true := by kernel_rfl
theorem tarr29 : tarr Tryz.prog 29 = none := by kernel_rfl
theorem tbytes29 : tbytes Tryz.prog 29 = some 16 := by kernel_rfl
theorem tzero29 : tzero Tryz.prog 29 = some [.int .i64 0, .int .i64 0] := by kernel_rfl
theorem tzv29 : tzv Tryz.prog 29 = some (.agg [.int .i64 0, .int .i64 0]) := by kernel_rfl
theorem tplaces29 : tplaces Tryz.prog 29 = some [(0, 1), (1, 1)] := by kernel_rfl
theorem tfld29_0 : tfld Tryz.prog 29 0 = some (0, 3) := by kernel_rfl
theorem tfld29_1 : tfld Tryz.prog 29 1 = some (1, 3) := by kernel_rfl
theorem tsz30 : tsz Tryz.prog 30 = some 1 := by kernel_rfl
theorem tagg30 : tagg Tryz.prog 30 = some false := by kernel_rfl
theorem tslice30 : tslice Tryz.prog 30 = some 29 := by kernel_rfl
theorem tbytes30 : tbytes Tryz.prog 30 = some 24 := by kernel_rfl
theorem tzero30 : tzero Tryz.prog 30 = some [.nils] := by kernel_rfl
theorem tzv30 : tzv Tryz.prog 30 = some (.nils) := by kernel_rfl
theorem tsz31 : tsz Tryz.prog 31 = some 10 := by kernel_rfl
theorem tagg31 : tagg Tryz.prog 31 = some true := by kernel_rfl
theorem tarr31 : tarr Tryz.prog 31 = none := by kernel_rfl
theorem tbytes31 : tbytes Tryz.prog 31 = some 112 := by kernel_rfl
theorem tzero31 : tzero Tryz.prog 31 = some [.nils, .int .i64 0, .int .i64 0, .int .i64 0, .int .i64 0, .int .i64 0, .int .i64 0, .int .i64 0, .int .i64 0, .nils] := by kernel_rfl
theorem tzv31 : tzv Tryz.prog 31 = some (.agg [.nils, .int .i64 0, .int .i64 0, .int .i64 0, .int .i64 0, .int .i64 0, .int .i64 0, .int .i64 0, .int .i64 0, .nils]) := by kernel_rfl
theorem tplaces31 : tplaces Tryz.prog 31 = some [(0, 1), (1, 1), (2, 1), (3, 2), (5, 2), (7, 2), (9, 1)] := by kernel_rfl
theorem tfld31_0 : tfld Tryz.prog 31 0 = some (0, 28) := by kernel_rfl
theorem tfld31_1 : tfld Tryz.prog 31 1 = some (1, 3) := by kernel_rfl
theorem tfld31_2 : tfld Tryz.prog 31 2 = some (2, 3) := by kernel_rfl
theorem tfld31_3 : tfld Tryz.prog 31 3 = some (3, 29) := by kernel_rfl
theorem tfld31_4 : tfld Tryz.prog 31 4 = some (5, 29) := by kernel_rfl
theorem tfld31_5 : tfld Tryz.prog 31 5 = some (7, 29) := by kernel_rfl
theorem tfld31_6 : tfld Tryz.prog 31 6 = some (9, 30) := by kernel_rfl
theorem tsz32 : tsz Tryz.prog 32 = some 10 := by kernel_rfl
theorem tagg32 : tagg Tryz.prog 32 = some true := by kernel_rfl
theorem tarr32 : tarr Tryz.prog 32 = none := by kernel_rfl
theorem tbytes32 : tbytes Tryz.prog 32 = some 112 := by kernel_rfl
theorem tzero32 : tzero Tryz.prog 32 = some [.nils, .int .i64 0, .int .i64 0, .int .i64 0, .int .i64 0, .int .i64 0, .int .i64 0, .int .i64 0, .int .i64 0, .nils] := by kernel_rfl
theorem tzv32 : tzv Tryz.prog 32 = some (.agg [.nils, .int .i64 0, .int .i64 0, .int .i64 0, .int .i64 0, .int .i64 0, .int .i64 0, .int .i64 0, .int .i64 0, .nils]) := by kernel_rfl
theorem tplaces32 : tplaces Tryz.prog 32 = some [(0, 1), (1, 1), (2, 1), (3, 2), (5, 2), (7, 2), (9, 1)] := by kernel_rfl
theorem tfld32_0 : tfld Tryz.prog 32 0 = some (0, 28) := by kernel_rfl
theorem tfld32_1 : tfld Tryz.prog 32 1 = some (1, 3) := by kernel_rfl
theorem tfld32_2 : tfld Tryz.prog 32 2 = some (2, 3) := by kernel_rfl
theorem tfld32_3 : tfld Tryz.prog 32 3 = some (3, 29) := by kernel_rfl
theorem tfld32_4 : tfld Tryz.prog 32 4 = some (5, 29) := by kernel_rfl
theorem tfld32_5 : tfld Tryz.prog 32 5 = some (7, 29) := by kernel_rfl
theorem tfld32_6 : tfld Tryz.prog 32 6 = some (9, 30) := by kernel_rfl
theorem tsz33 : tsz Tryz.prog 33 = some 1 := by kernel_rfl
theorem tagg33 : tagg Tryz.prog 33 = some false := by kernel_rfl
theorem tslice33 : tslice Tryz.prog 33 = some 96 := by kernel_rfl
theorem tbytes33 : tbytes Tryz.prog 33 = some 24 := by kernel_rfl
theorem tzero33 : tzero Tryz.prog 33 = some [.nils] := by kernel_rfl
theorem tzv33 : tzv Tryz.prog 33 = some (.nils) := by kernel_rfl
theorem tsz34 : tsz Tryz.prog 34 = some 3 := by kernel_rfl
theorem tagg34 : tagg Tryz.prog 34 = some true := by kernel_rfl
theorem tarr34 : tarr Tryz.prog 34 = none := by kernel_rfl
theorem tbytes34 : tbytes Tryz.prog 34 = some 24 := by kernel_rfl
theorem tzero34 : tzero Tryz.prog 34 = some [.int .i64 0, .int .i64 0, .int .i64 0] := by kernel_rfl
theorem tzv34 : tzv Tryz.prog 34 = some (.agg [.int .i64 0, .int .i64 0, .int .i64 0]) := by kernel_rfl
theorem tplaces34 : tplaces Tryz.prog 34 = some [(0, 1), (1, 2)] := by kernel_rfl
theorem tfld34_0 : tfld Tryz.prog 34 0 = some (0, 3) := by kernel_rfl
theorem tfld34_1 : tfld Tryz.prog 34 1 = some (1, 29) := by kernel_rfl
theorem tsz35 : tsz Tryz.prog 35 = some 3 := by kernel_rfl
theorem tagg35 : tagg Tryz.prog 35 = some true := by kernel_rfl
theorem tarr35 : tarr Tryz.prog 35 = none := by kernel_rfl
theorem tbytes35 : tbytes Tryz.prog 35 = some 24 := by kernel_rfl
theorem tzero35 : tzero Tryz.prog 35 = some [.int .i64 0, .int .i64 0, .int .i64 0] := by kernel_rfl
theorem tzv35 : tzv Tryz.prog 35 = some (.agg [.int .i64 0, .int .i64 0, .int .i64 0]) := by kernel_rfl
theorem tplaces35 : tplaces Tryz.prog 35 = some [(0, 1), (1, 2)] := by kernel_rfl
theorem tfld35_0 : tfld Tryz.prog 35 0 = some (0, 3) := by kernel_rfl
theorem tfld35_1 : tfld Tryz.prog 35 1 = some (1, 29) := by kernel_rfl
theorem tsz36 : tsz Tryz.prog 36 = some 1 := by kernel_rfl
theorem tagg36 : tagg Tryz.prog 36 = some false := by kernel_rfl
theorem tslice36 : tslice Tryz.prog 36 = some 48 := by kernel_rfl
theorem tbytes36 : tbytes Tryz.prog 36 = some 24 := by kernel_rfl
theorem tzero36 : tzero Tryz.prog 36 = some [.nils] := by kernel_rfl
theorem tzv36 : tzv Tryz.prog 36 = some (.nils) := by kernel_rfl
theorem tsz37 : tsz Tryz.prog 37 = some 1 := by kernel_rfl
theorem tagg37 : tagg Tryz.prog 37 = some false := by kernel_rfl
theorem tslice37 : tslice Tryz.prog 37 = some 131 := by kernel_rfl
theorem tbytes37 : tbytes Tryz.prog 37 = some 24 := by kernel_rfl
theorem tzero37 : tzero Tryz.prog 37 = some [.nils] := by kernel_rfl
theorem tzv37 : tzv Tryz.prog 37 = some (.nils) := by kernel_rfl
theorem tsz38 : tsz Tryz.prog 38 = some 1 := by kernel_rfl
theorem tagg38 : tagg Tryz.prog 38 = some false := by kernel_rfl
theorem tbytes38 : tbytes Tryz.prog 38 = some 8 := by kernel_rfl
theorem tzero38 : tzero Tryz.prog 38 = some [.nilf] := by kernel_rfl
theorem tzv38 : tzv Tryz.prog 38 = some (.nilf) := by kernel_rfl
theorem tsz39 : tsz Tryz.prog 39 = some 1 := by kernel_rfl
theorem tagg39 : tagg Tryz.prog 39 = some false := by kernel_rfl
theorem tbytes39 : tbytes Tryz.prog 39 = some 8 := by kernel_rfl
theorem tzero39 : tzero Tryz.prog 39 = some [.nilf] := by kernel_rfl
theorem tzv39 : tzv Tryz.prog 39 = some (.nilf) := by kernel_rfl
theorem tsz40 : tsz Tryz.prog 40 = some 1 := by kernel_rfl
theorem tagg40 : tagg Tryz.prog 40 = some false := by kernel_rfl
theorem tbytes40 : tbytes Tryz.prog 40 = some 8 := by kernel_rfl
theorem tzero40 : tzero Tryz.prog 40 = some [.nilf] := by kernel_rfl
theorem tzv40 : tzv Tryz.prog 40 = some (.nilf) := by kernel_rfl
theorem tsz41 : tsz Tryz.prog 41 = some 1 := by kernel_rfl
theorem tagg41 : tagg Tryz.prog 41 = some false := by kernel_rfl
theorem tbytes41 : tbytes Tryz.prog 41 = some 8 := by kernel_rfl
theorem tzero41 : tzero Tryz.prog 41 = some [.nilf] := by kernel_rfl
theorem tzv41 : tzv Tryz.prog 41 = some (.nilf) := by kernel_rfl
theorem tsz42 : tsz Tryz.prog 42 = some 1 := by kernel_rfl
theorem tagg42 : tagg Tryz.prog 42 = some false := by kernel_rfl
theorem tbytes42 : tbytes Tryz.prog 42 = some 8 := by kernel_rfl
theorem tzero42 : tzero Tryz.prog 42 = some [.nilf] := by kernel_rfl
theorem tzv42 : tzv Tryz.prog 42 = some (.nilf) := by kernel_rfl
theorem tsz43 : tsz Tryz.prog 43 = some 1 := by kernel_rfl
theorem tagg43 : tagg Tryz.prog 43 = some false := by kernel_rfl
theorem tbytes43 : tbytes Tryz.prog 43 = some 8 := by kernel_rfl
theorem tzero43 : tzero Tryz.prog 43 = some [.nilf] := by kernel_rfl
theorem tzv43 : tzv Tryz.prog 43 = some (.nilf) := by kernel_rfl
theorem tsz44 : tsz Tryz.prog 44 = some 1 := by kernel_rfl
theorem tagg44 : tagg Tryz.prog 44 = some false := by kernel_rfl
theorem tbytes44 : tbytes Tryz.prog 44 = some 8 := by kernel_rfl
theorem tzero44 : tzero Tryz.prog 44 = some [.nilf] := by kernel_rfl
theorem tzv44 : tzv Tryz.prog 44 = some (.nilf) := by kernel_rfl
theorem tsz45 : tsz Tryz.prog 45 = some 1 := by kernel_rfl
theorem tagg45 : tagg Tryz.prog 45 = some false := by kernel_rfl
theorem tbytes45 : tbytes Tryz.prog 45 = some 8 := by kernel_rfl
theorem tzero45 : tzero Tryz.prog 45 = some [.nilf] := by kernel_rfl
theorem tzv45 : tzv Tryz.prog 45 = some (.nilf) := by kernel_rfl
theorem tsz46 : tsz Tryz.prog 46 = some 1 := by kernel_rfl
theorem tagg46 : tagg Tryz.prog 46 = some false := by kernel_rfl
theorem tbytes46 : tbytes Tryz.prog 46 = some 8 := by kernel_rfl
theorem tzero46 : tzero Tryz.prog 46 = some [.nilf] := by kernel_rfl
theorem tzv46 : tzv Tryz.prog 46 = some (.nilf) := by kernel_rfl
theorem tsz47 : tsz Tryz.prog 47 = some 3 := by kernel_rfl
theorem tagg47 : tagg Tryz.prog 47 = some true := by kernel_rfl
theorem tarr47 : tarr Tryz.prog 47 = none := by kernel_rfl
theorem tbytes47 : tbytes Tryz.prog 47 = some 24 := by kernel_rfl
theorem tzero47 : tzero Tryz.prog 47 = some [.int .i64 0, .int .i64 0, .int .i64 0] := by kernel_rfl
theorem tzv47 : tzv Tryz.prog 47 = some (.agg [.int .i64 0, .int .i64 0, .int .i64 0]) := by kernel_rfl
theorem tplaces47 : tplaces Tryz.prog 47 = some [(0, 1), (1, 1), (2, 1)] := by kernel_rfl
theorem tfld47_0 : tfld Tryz.prog 47 0 = some (0, 3) := by kernel_rfl
theorem tfld47_1 : tfld Tryz.prog 47 1 = some (1, 3) := by kernel_rfl
theorem tfld47_2 : tfld Tryz.prog 47 2 = some (2, 3) := by kernel_rfl
theorem tsz48 : tsz Tryz.prog 48 = some 3 := by kernel_rfl
theorem tagg48 : tagg Tryz.prog 48 = some true := by kernel_rfl
theorem tarr48 : tarr Tryz.prog 48 = none := by kernel_rfl
theorem tbytes48 : tbytes Tryz.prog 48 = some 24 := by kernel_rfl
theorem tzero48 : tzero Tryz.prog 48 = some [.int .i64 0, .int .i64 0, .int .i64 0] := by kernel_rfl
theorem tzv48 : tzv Tryz.prog 48 = some (.agg [.int .i64 0, .int .i64 0, .int .i64 0]) := by kernel_rfl
theorem tplaces48 : tplaces Tryz.prog 48 = some [(0, 1), (1, 1), (2, 1)] := by kernel_rfl
theorem tfld48_0 : tfld Tryz.prog 48 0 = some (0, 3) := by kernel_rfl
theorem tfld48_1 : tfld Tryz.prog 48 1 = some (1, 3) := by kernel_rfl
theorem tfld48_2 : tfld Tryz.prog 48 2 = some (2, 3) := by kernel_rfl
theorem tsz49 : tsz Tryz.prog 49 = some 1 := by kernel_rfl
theorem tagg49 : tagg Tryz.prog 49 = some false := by kernel_rfl
theorem tslice49 : tslice Tryz.prog 49 = some 66 := by kernel_rfl
theorem tbytes49 : tbytes Tryz.prog 49 = some 24 := by kernel_rfl
theorem tzero49 : tzero Tryz.prog 49 = some [.nils] := by kernel_rfl
theorem tzv49 : tzv Tryz.prog 49 = some (.nils) := by kernel_rfl
theorem tsz50 : tsz Tryz.prog 50 = some 1 := by kernel_rfl
theorem tagg50 : tagg Tryz.prog 50 = some false := by kernel_rfl
theorem tint50 : tint Tryz.prog 50 = some .i64 := by kernel_rfl
theorem tund50 : (Tryz.prog.underlying 50).isSome = true := by kernel_rfl
theorem tbytes50 : tbytes Tryz.prog 50 = some 8 := by kernel_rfl
theorem tzero50 : tzero Tryz.prog 50 = some [.int .i64 0] := by kernel_rfl
theorem tzv50 : tzv Tryz.prog 50 = some (.int .i64 0) := by kernel_rfl
theorem tsz51 : tsz Tryz.prog 51 = some 1 := by kernel_rfl
theorem tagg51 : tagg Tryz.prog 51 = some false := by kernel_rfl
theorem tbytes51 : tbytes Tryz.prog 51 = some 0 := by kernel_rfl
theorem tsz52 : tsz Tryz.prog 52 = some 1 := by kernel_rfl
theorem tagg52 : tagg Tryz.prog 52 = some false := by kernel_rfl
theorem tbytes52 : tbytes Tryz.prog 52 = some 8 := by kernel_rfl
theorem tzero52 : tzero Tryz.prog 52 = some [.nilf] := by kernel_rfl
theorem tzv52 : tzv Tryz.prog 52 = some (.nilf) := by kernel_rfl
theorem tsz53 : tsz Tryz.prog 53 = some 2 := by kernel_rfl
theorem tagg53 : tagg Tryz.prog 53 = some true := by kernel_rfl
theorem tarr53 : tarr Tryz.prog 53 = none := by kernel_rfl
theorem tbytes53 : tbytes Tryz.prog 53 = some 16 := by kernel_rfl
theorem tzero53 : tzero Tryz.prog 53 = some [.int .i64 0, .int .i64 0] := by kernel_rfl
theorem tzv53 : tzv Tryz.prog 53 = some (.agg [.int .i64 0, .int .i64 0]) := by kernel_rfl
theorem tplaces53 : tplaces Tryz.prog 53 = some [(0, 1), (1, 1)] := by kernel_rfl
theorem tfld53_0 : tfld Tryz.prog 53 0 = some (0, 3) := by kernel_rfl
theorem tfld53_1 : tfld Tryz.prog 53 1 = some (1, 3) := by kernel_rfl
theorem tsz54 : tsz Tryz.prog 54 = some 1 := by kernel_rfl
theorem tagg54 : tagg Tryz.prog 54 = some false := by kernel_rfl
theorem tslice54 : tslice Tryz.prog 54 = some 53 := by kernel_rfl
theorem tbytes54 : tbytes Tryz.prog 54 = some 24 := by kernel_rfl
theorem tzero54 : tzero Tryz.prog 54 = some [.nils] := by kernel_rfl
theorem tzv54 : tzv Tryz.prog 54 = some (.nils) := by kernel_rfl
theorem tsz55 : tsz Tryz.prog 55 = some 10 := by kernel_rfl
theorem tagg55 : tagg Tryz.prog 55 = some true := by kernel_rfl
theorem tarr55 : tarr Tryz.prog 55 = none := by kernel_rfl
theorem tbytes55 : tbytes Tryz.prog 55 = some 112 := by kernel_rfl
theorem tzero55 : tzero Tryz.prog 55 = some [.nils, .int .i64 0, .int .i64 0, .int .i64 0, .int .i64 0, .int .i64 0, .int .i64 0, .int .i64 0, .int .i64 0, .nils] := by kernel_rfl
theorem tzv55 : tzv Tryz.prog 55 = some (.agg [.nils, .int .i64 0, .int .i64 0, .int .i64 0, .int .i64 0, .int .i64 0, .int .i64 0, .int .i64 0, .int .i64 0, .nils]) := by kernel_rfl
theorem tplaces55 : tplaces Tryz.prog 55 = some [(0, 1), (1, 1), (2, 1), (3, 2), (5, 2), (7, 2), (9, 1)] := by kernel_rfl
theorem tfld55_0 : tfld Tryz.prog 55 0 = some (0, 28) := by kernel_rfl
theorem tfld55_1 : tfld Tryz.prog 55 1 = some (1, 3) := by kernel_rfl
theorem tfld55_2 : tfld Tryz.prog 55 2 = some (2, 3) := by kernel_rfl
theorem tfld55_3 : tfld Tryz.prog 55 3 = some (3, 53) := by kernel_rfl
theorem tfld55_4 : tfld Tryz.prog 55 4 = some (5, 53) := by kernel_rfl
theorem tfld55_5 : tfld Tryz.prog 55 5 = some (7, 53) := by kernel_rfl
theorem tfld55_6 : tfld Tryz.prog 55 6 = some (9, 54) := by kernel_rfl
theorem tsz56 : tsz Tryz.prog 56 = some 10 := by kernel_rfl
theorem tagg56 : tagg Tryz.prog 56 = some true := by kernel_rfl
theorem tarr56 : tarr Tryz.prog 56 = none := by kernel_rfl
theorem tbytes56 : tbytes Tryz.prog 56 = some 112 := by kernel_rfl
theorem tzero56 : tzero Tryz.prog 56 = some [.nils, .int .i64 0, .int .i64 0, .int .i64 0, .int .i64 0, .int .i64 0, .int .i64 0, .int .i64 0, .int .i64 0, .nils] := by kernel_rfl
theorem tzv56 : tzv Tryz.prog 56 = some (.agg [.nils, .int .i64 0, .int .i64 0, .int .i64 0, .int .i64 0, .int .i64 0, .int .i64 0, .int .i64 0, .int .i64 0, .nils]) := by kernel_rfl
theorem tplaces56 : tplaces Tryz.prog 56 = some [(0, 1), (1, 1), (2, 1), (3, 2), (5, 2), (7, 2), (9, 1)] := by kernel_rfl
theorem tfld56_0 : tfld Tryz.prog 56 0 = some (0, 28) := by kernel_rfl
theorem tfld56_1 : tfld Tryz.prog 56 1 = some (1, 3) := by kernel_rfl
theorem tfld56_2 : tfld Tryz.prog 56 2 = some (2, 3) := by kernel_rfl
theorem tfld56_3 : tfld Tryz.prog 56 3 = some (3, 53) := by kernel_rfl
theorem tfld56_4 : tfld Tryz.prog 56 4 = some (5, 53) := by kernel_rfl
theorem tfld56_5 : tfld Tryz.prog 56 5 = some (7, 53) := by kernel_rfl
theorem tfld56_6 : tfld Tryz.prog 56 6 = some (9, 54) := by kernel_rfl
theorem tsz57 : tsz Tryz.prog 57 = some 1 := by kernel_rfl
theorem tagg57 : tagg Tryz.prog 57 = some false := by kernel_rfl
theorem tbytes57 : tbytes Tryz.prog 57 = some 8 := by kernel_rfl
theorem tzero57 : tzero Tryz.prog 57 = some [.nilf] := by kernel_rfl
theorem tzv57 : tzv Tryz.prog 57 = some (.nilf) := by kernel_rfl
theorem tsz58 : tsz Tryz.prog 58 = some 1 := by kernel_rfl
theorem tagg58 : tagg Tryz.prog 58 = some false := by kernel_rfl
theorem tslice58 : tslice Tryz.prog 58 = some 114 := by kernel_rfl
theorem tbytes58 : tbytes Tryz.prog 58 = some 24 := by kernel_rfl
theorem tzero58 : tzero Tryz.prog 58 = some [.nils] := by kernel_rfl
theorem tzv58 : tzv Tryz.prog 58 = some (.nils) := by kernel_rfl
theorem tsz59 : tsz Tryz.prog 59 = some 1 := by kernel_rfl
theorem tagg59 : tagg Tryz.prog 59 = some false := by kernel_rfl
theorem tbytes59 : tbytes Tryz.prog 59 = some 8 := by kernel_rfl
theorem tzero59 : tzero Tryz.prog 59 = some [.nilf] := by kernel_rfl
theorem tzv59 : tzv Tryz.prog 59 = some (.nilf) := by kernel_rfl
theorem tsz60 : tsz Tryz.prog 60 = some 3 := by kernel_rfl
theorem tagg60 : tagg Tryz.prog 60 = some true := by kernel_rfl
theorem tarr60 : tarr Tryz.prog 60 = none := by kernel_rfl
theorem tbytes60 : tbytes Tryz.prog 60 = some 24 := by kernel_rfl
theorem tzero60 : tzero Tryz.prog 60 = some [.int .i64 0, .int .i64 0, .int .i64 0] := by kernel_rfl
theorem tzv60 : tzv Tryz.prog 60 = some (.agg [.int .i64 0, .int .i64 0, .int .i64 0]) := by kernel_rfl
theorem tplaces60 : tplaces Tryz.prog 60 = some [(0, 1), (1, 2)] := by kernel_rfl
theorem tfld60_0 : tfld Tryz.prog 60 0 = some (0, 3) := by kernel_rfl
theorem tfld60_1 : tfld Tryz.prog 60 1 = some (1, 53) := by kernel_rfl
theorem tsz61 : tsz Tryz.prog 61 = some 3 := by kernel_rfl
theorem tagg61 : tagg Tryz.prog 61 = some true := by kernel_rfl
theorem tarr61 : tarr Tryz.prog 61 = none := by kernel_rfl
theorem tbytes61 : tbytes Tryz.prog 61 = some 24 := by kernel_rfl
theorem tzero61 : tzero Tryz.prog 61 = some [.int .i64 0, .int .i64 0, .int .i64 0] := by kernel_rfl
theorem tzv61 : tzv Tryz.prog 61 = some (.agg [.int .i64 0, .int .i64 0, .int .i64 0]) := by kernel_rfl
theorem tplaces61 : tplaces Tryz.prog 61 = some [(0, 1), (1, 2)] := by kernel_rfl
theorem tfld61_0 : tfld Tryz.prog 61 0 = some (0, 3) := by kernel_rfl
theorem tfld61_1 : tfld Tryz.prog 61 1 = some (1, 53) := by kernel_rfl
theorem tsz62 : tsz Tryz.prog 62 = some 1 := by kernel_rfl
theorem tagg62 : tagg Tryz.prog 62 = some false := by kernel_rfl
theorem tbytes62 : tbytes Tryz.prog 62 = some 8 := by kernel_rfl
theorem tzero62 : tzero Tryz.prog 62 = some [.nilf] := by kernel_rfl
theorem tzv62 : tzv Tryz.prog 62 = some (.nilf) := by kernel_rfl
theorem tsz63 : tsz Tryz.prog 63 = some 1 := by kernel_rfl
theorem tagg63 : tagg Tryz.prog 63 = some false := by kernel_rfl
theorem tslice63 : tslice Tryz.prog 63 = some 97 := by kernel_rfl
theorem tbytes63 : tbytes Tryz.prog 63 = some 24 := by kernel_rfl
theorem tzero63 : tzero Tryz.prog 63 = some [.nils] := by kernel_rfl
theorem tzv63 : tzv Tryz.prog 63 = some (.nils) := by kernel_rfl
theorem tsz64 : tsz Tryz.prog 64 = some 1 := by kernel_rfl
theorem tagg64 : tagg Tryz.prog 64 = some false := by kernel_rfl
theorem tbytes64 : tbytes Tryz.prog 64 = some 8 := by kernel_rfl
theorem tzero64 : tzero Tryz.prog 64 = some [.nilf] := by kernel_rfl
theorem tzv64 : tzv Tryz.prog 64 = some (.nilf) := by kernel_rfl
theorem tsz65 : tsz Tryz.prog 65 = some 3 := by kernel_rfl
theorem tagg65 : tagg Tryz.prog 65 = some true := by kernel_rfl
theorem tarr65 : tarr Tryz.prog 65 = none := by kernel_rfl
theorem tbytes65 : tbytes Tryz.prog 65 = some 24 := by kernel_rfl
theorem tzero65 : tzero Tryz.prog 65 = some [.bool false, .int .i64 0, .int .i64 0] := by kernel_rfl
theorem tzv65 : tzv Tryz.prog 65 = some (.agg [.bool false, .int .i64 0, .int .i64 0]) := by kernel_rfl
theorem tplaces65 : tplaces Tryz.prog 65 = some [(0, 1), (1, 1), (2, 1)] := by kernel_rfl
theorem tfld65_0 : tfld Tryz.prog 65 0 = some (0, 4) := by kernel_rfl
theorem tfld65_1 : tfld Tryz.prog 65 1 = some (1, 3) := by kernel_rfl
theorem tfld65_2 : tfld Tryz.prog 65 2 = some (2, 3) := by kernel_rfl
theorem tsz66 : tsz Tryz.prog 66 = some 3 := by kernel_rfl
theorem tagg66 : tagg Tryz.prog 66 = some true := by kernel_rfl
theorem tarr66 : tarr Tryz.prog 66 = none := by kernel_rfl
theorem tbytes66 : tbytes Tryz.prog 66 = some 24 := by kernel_rfl
theorem tzero66 : tzero Tryz.prog 66 = some [.bool false, .int .i64 0, .int .i64 0] := by kernel_rfl
theorem tzv66 : tzv Tryz.prog 66 = some (.agg [.bool false, .int .i64 0, .int .i64 0]) := by kernel_rfl
theorem tplaces66 : tplaces Tryz.prog 66 = some [(0, 1), (1, 1), (2, 1)] := by kernel_rfl
theorem tfld66_0 : tfld Tryz.prog 66 0 = some (0, 4) := by kernel_rfl
theorem tfld66_1 : tfld Tryz.prog 66 1 = some (1, 3) := by kernel_rfl
theorem tfld66_2 : tfld Tryz.prog 66 2 = some (2, 3) := by kernel_rfl
theorem tsz67 : tsz Tryz.prog 67 = some 6 := by kernel_rfl
theorem tagg67 : tagg Tryz.prog 67 = some true := by kernel_rfl
theorem tarr67 : tarr Tryz.prog 67 = none := by kernel_rfl
theorem tbytes67 : tbytes Tryz.prog 67 = some 48 := by kernel_rfl
theorem tzero67 : tzero Tryz.prog 67 = some [.int .i64 0, .int .u8 0, .int .i64 0, .int .i64 0, .int .i64 0, .int .i64 0] := by kernel_rfl
theorem tzv67 : tzv Tryz.prog 67 = some (.agg [.int .i64 0, .int .u8 0, .int .i64 0, .int .i64 0, .int .i64 0, .int .i64 0]) := by kernel_rfl
theorem tplaces67 : tplaces Tryz.prog 67 = some [(0, 1), (1, 1), (2, 2), (4, 1), (5, 1)] := by kernel_rfl
theorem tfld67_0 : tfld Tryz.prog 67 0 = some (0, 3) := by kernel_rfl
theorem tfld67_1 : tfld Tryz.prog 67 1 = some (1, 5) := by kernel_rfl
theorem tfld67_2 : tfld Tryz.prog 67 2 = some (2, 25) := by kernel_rfl
theorem tfld67_3 : tfld Tryz.prog 67 3 = some (4, 3) := by kernel_rfl
theorem tfld67_4 : tfld Tryz.prog 67 4 = some (5, 3) := by kernel_rfl
theorem tsz68 : tsz Tryz.prog 68 = some 6 := by kernel_rfl
theorem tagg68 : tagg Tryz.prog 68 = some true := by kernel_rfl
theorem tarr68 : tarr Tryz.prog 68 = none := by kernel_rfl
theorem tbytes68 : tbytes Tryz.prog 68 = some 48 := by kernel_rfl
theorem tzero68 : tzero Tryz.prog 68 = some [.int .i64 0, .int .u8 0, .int .i64 0, .int .i64 0, .int .i64 0, .int .i64 0] := by kernel_rfl
theorem tzv68 : tzv Tryz.prog 68 = some (.agg [.int .i64 0, .int .u8 0, .int .i64 0, .int .i64 0, .int .i64 0, .int .i64 0]) := by kernel_rfl
theorem tplaces68 : tplaces Tryz.prog 68 = some [(0, 1), (1, 1), (2, 2), (4, 1), (5, 1)] := by kernel_rfl
theorem tfld68_0 : tfld Tryz.prog 68 0 = some (0, 3) := by kernel_rfl
theorem tfld68_1 : tfld Tryz.prog 68 1 = some (1, 5) := by kernel_rfl
theorem tfld68_2 : tfld Tryz.prog 68 2 = some (2, 25) := by kernel_rfl
theorem tfld68_3 : tfld Tryz.prog 68 3 = some (4, 3) := by kernel_rfl
theorem tfld68_4 : tfld Tryz.prog 68 4 = some (5, 3) := by kernel_rfl
theorem tsz69 : tsz Tryz.prog 69 = some 1 := by kernel_rfl
theorem tagg69 : tagg Tryz.prog 69 = some false := by kernel_rfl
theorem tslice69 : tslice Tryz.prog 69 = some 87 := by kernel_rfl
theorem tbytes69 : tbytes Tryz.prog 69 = some 24 := by kernel_rfl
theorem tzero69 : tzero Tryz.prog 69 = some [.nils] := by kernel_rfl
theorem tzv69 : tzv Tryz.prog 69 = some (.nils) := by kernel_rfl
theorem tsz70 : tsz Tryz.prog 70 = some 1 := by kernel_rfl
theorem tagg70 : tagg Tryz.prog 70 = some false := by kernel_rfl
theorem tbytes70 : tbytes Tryz.prog 70 = some 0 := by kernel_rfl
theorem tsz71 : tsz Tryz.prog 71 = some 1 := by kernel_rfl
theorem tagg71 : tagg Tryz.prog 71 = some false := by kernel_rfl
theorem tbytes71 : tbytes Tryz.prog 71 = some 8 := by kernel_rfl
theorem tzero71 : tzero Tryz.prog 71 = some [.nilf] := by kernel_rfl
theorem tzv71 : tzv Tryz.prog 71 = some (.nilf) := by kernel_rfl
theorem tsz72 : tsz Tryz.prog 72 = some 1 := by kernel_rfl
theorem tagg72 : tagg Tryz.prog 72 = some false := by kernel_rfl
theorem tslice72 : tslice Tryz.prog 72 = some 129 := by kernel_rfl
theorem tbytes72 : tbytes Tryz.prog 72 = some 24 := by kernel_rfl
theorem tzero72 : tzero Tryz.prog 72 = some [.nils] := by kernel_rfl
theorem tzv72 : tzv Tryz.prog 72 = some (.nils) := by kernel_rfl
theorem tsz73 : tsz Tryz.prog 73 = some 1 := by kernel_rfl
theorem tagg73 : tagg Tryz.prog 73 = some false := by kernel_rfl
theorem tslice73 : tslice Tryz.prog 73 = some 130 := by kernel_rfl
theorem tbytes73 : tbytes Tryz.prog 73 = some 24 := by kernel_rfl
theorem tzero73 : tzero Tryz.prog 73 = some [.nils] := by kernel_rfl
theorem tzv73 : tzv Tryz.prog 73 = some (.nils) := by kernel_rfl
theorem tsz74 : tsz Tryz.prog 74 = some 2 := by kernel_rfl
theorem tagg74 : tagg Tryz.prog 74 = some true := by kernel_rfl
theorem tarr74 : tarr Tryz.prog 74 = none := by kernel_rfl
theorem tbytes74 : tbytes Tryz.prog 74 = some 16 := by kernel_rfl
theorem tzero74 : tzero Tryz.prog 74 = some [.int .i64 0, .int .i64 0] := by kernel_rfl
theorem tzv74 : tzv Tryz.prog 74 = some (.agg [.int .i64 0, .int .i64 0]) := by kernel_rfl
theorem tplaces74 : tplaces Tryz.prog 74 = some [(0, 1), (1, 1)] := by kernel_rfl
theorem tfld74_0 : tfld Tryz.prog 74 0 = some (0, 3) := by kernel_rfl
theorem tfld74_1 : tfld Tryz.prog 74 1 = some (1, 3) := by kernel_rfl
theorem tsz75 : tsz Tryz.prog 75 = some 5 := by kernel_rfl
theorem tagg75 : tagg Tryz.prog 75 = some true := by kernel_rfl
theorem tarr75 : tarr Tryz.prog 75 = none := by kernel_rfl
theorem tbytes75 : tbytes Tryz.prog 75 = some 72 := by kernel_rfl
theorem tzero75 : tzero Tryz.prog 75 = some [.nils, .nils, .int .i64 0, .int .i64 0, .int .i64 0] := by kernel_rfl
theorem tzv75 : tzv Tryz.prog 75 = some (.agg [.nils, .nils, .int .i64 0, .int .i64 0, .int .i64 0]) := by kernel_rfl
theorem tplaces75 : tplaces Tryz.prog 75 = some [(0, 1), (1, 1), (2, 1), (3, 2)] := by kernel_rfl
theorem tfld75_0 : tfld Tryz.prog 75 0 = some (0, 72) := by kernel_rfl
theorem tfld75_1 : tfld Tryz.prog 75 1 = some (1, 73) := by kernel_rfl
theorem tfld75_2 : tfld Tryz.prog 75 2 = some (2, 3) := by kernel_rfl
theorem tfld75_3 : tfld Tryz.prog 75 3 = some (3, 74) := by kernel_rfl
theorem tsz76 : tsz Tryz.prog 76 = some 5 := by kernel_rfl
theorem tagg76 : tagg Tryz.prog 76 = some true := by kernel_rfl
theorem tarr76 : tarr Tryz.prog 76 = none := by kernel_rfl
theorem tbytes76 : tbytes Tryz.prog 76 = some 72 := by kernel_rfl
theorem tzero76 : tzero Tryz.prog 76 = some [.nils, .nils, .int .i64 0, .int .i64 0, .int .i64 0] := by kernel_rfl
theorem tzv76 : tzv Tryz.prog 76 = some (.agg [.nils, .nils, .int .i64 0, .int .i64 0, .int .i64 0]) := by kernel_rfl
theorem tplaces76 : tplaces Tryz.prog 76 = some [(0, 1), (1, 1), (2, 1), (3, 2)] := by kernel_rfl
theorem tfld76_0 : tfld Tryz.prog 76 0 = some (0, 72) := by kernel_rfl
theorem tfld76_1 : tfld Tryz.prog 76 1 = some (1, 73) := by kernel_rfl
theorem tfld76_2 : tfld Tryz.prog 76 2 = some (2, 3) := by kernel_rfl
theorem tfld76_3 : tfld Tryz.prog 76 3 = some (3, 74) := by kernel_rfl
theorem tsz77 : tsz Tryz.prog 77 = some 1 := by kernel_rfl
theorem tagg77 : tagg Tryz.prog 77 = some false := by kernel_rfl
theorem tbytes77 : tbytes Tryz.prog 77 = some 8 := by kernel_rfl
theorem tzero77 : tzero Tryz.prog 77 = some [.nilf] := by kernel_rfl
theorem tzv77 : tzv Tryz.prog 77 = some (.nilf) := by kernel_rfl
theorem tsz78 : tsz Tryz.prog 78 = some 1 := by kernel_rfl
theorem tagg78 : tagg Tryz.prog 78 = some false := by kernel_rfl
theorem tbytes78 : tbytes Tryz.prog 78 = some 8 := by kernel_rfl
theorem tzero78 : tzero Tryz.prog 78 = some [.nilf] := by kernel_rfl
theorem tzv78 : tzv Tryz.prog 78 = some (.nilf) := by kernel_rfl
theorem tsz79 : tsz Tryz.prog 79 = some 4 := by kernel_rfl
theorem tagg79 : tagg Tryz.prog 79 = some true := by kernel_rfl
theorem tarr79 : tarr Tryz.prog 79 = none := by kernel_rfl
theorem tbytes79 : tbytes Tryz.prog 79 = some 64 := by kernel_rfl
theorem tzero79 : tzero Tryz.prog 79 = some [.nils, .nils, .int .i64 0, .int .i64 0] := by kernel_rfl
theorem tzv79 : tzv Tryz.prog 79 = some (.agg [.nils, .nils, .int .i64 0, .int .i64 0]) := by kernel_rfl
theorem tplaces79 : tplaces Tryz.prog 79 = some [(0, 1), (1, 1), (2, 1), (3, 1)] := by kernel_rfl
theorem tfld79_0 : tfld Tryz.prog 79 0 = some (0, 28) := by kernel_rfl
theorem tfld79_1 : tfld Tryz.prog 79 1 = some (1, 28) := by kernel_rfl
theorem tfld79_2 : tfld Tryz.prog 79 2 = some (2, 3) := by kernel_rfl
theorem tfld79_3 : tfld Tryz.prog 79 3 = some (3, 3) := by kernel_rfl
theorem tsz80 : tsz Tryz.prog 80 = some 4 := by kernel_rfl
theorem tagg80 : tagg Tryz.prog 80 = some true := by kernel_rfl
theorem tarr80 : tarr Tryz.prog 80 = none := by kernel_rfl
theorem tbytes80 : tbytes Tryz.prog 80 = some 64 := by kernel_rfl
theorem tzero80 : tzero Tryz.prog 80 = some [.nils, .nils, .int .i64 0, .int .i64 0] := by kernel_rfl
theorem tzv80 : tzv Tryz.prog 80 = some (.agg [.nils, .nils, .int .i64 0, .int .i64 0]) := by kernel_rfl
theorem tplaces80 : tplaces Tryz.prog 80 = some [(0, 1), (1, 1), (2, 1), (3, 1)] := by kernel_rfl
theorem tfld80_0 : tfld Tryz.prog 80 0 = some (0, 28) := by kernel_rfl
theorem tfld80_1 : tfld Tryz.prog 80 1 = some (1, 28) := by kernel_rfl
theorem tfld80_2 : tfld Tryz.prog 80 2 = some (2, 3) := by kernel_rfl
theorem tfld80_3 : tfld Tryz.prog 80 3 = some (3, 3) := by kernel_rfl
theorem tsz81 : tsz Tryz.prog 81 = some 1 := by kernel_rfl
theorem tagg81 : tagg Tryz.prog 81 = some false := by kernel_rfl
theorem tbytes81 : tbytes Tryz.prog 81 = some 0 := by kernel_rfl
theorem tsz82 : tsz Tryz.prog 82 = some 1 := by kernel_rfl
theorem tagg82 : tagg Tryz.prog 82 = some false := by kernel_rfl
theorem tbytes82 : tbytes Tryz.prog 82 = some 8 := by kernel_rfl
theorem tzero82 : tzero Tryz.prog 82 = some [.nilf] := by kernel_rfl
theorem tzv82 : tzv Tryz.prog 82 = some (.nilf) := by kernel_rfl
theorem tsz83 : tsz Tryz.prog 83 = some 4 := by kernel_rfl
theorem tagg83 : tagg Tryz.prog 83 = some true := by kernel_rfl
theorem tarr83 : tarr Tryz.prog 83 = none := by kernel_rfl
theorem tbytes83 : tbytes Tryz.prog 83 = some 64 := by kernel_rfl
theorem tzero83 : tzero Tryz.prog 83 = some [.nils, .nils, .int .i64 0, .int .i64 0] := by kernel_rfl
theorem tzv83 : tzv Tryz.prog 83 = some (.agg [.nils, .nils, .int .i64 0, .int .i64 0]) := by kernel_rfl
theorem tplaces83 : tplaces Tryz.prog 83 = some [(0, 1), (1, 1), (2, 1), (3, 1)] := by kernel_rfl
theorem tfld83_0 : tfld Tryz.prog 83 0 = some (0, 28) := by kernel_rfl
theorem tfld83_1 : tfld Tryz.prog 83 1 = some (1, 28) := by kernel_rfl
theorem tfld83_2 : tfld Tryz.prog 83 2 = some (2, 3) := by kernel_rfl
theorem tfld83_3 : tfld Tryz.prog 83 3 = some (3, 3) := by kernel_rfl
theorem tsz84 : tsz Tryz.prog 84 = some 1 := by kernel_rfl
theorem tagg84 : tagg Tryz.prog 84 = some false := by kernel_rfl
theorem tbytes84 : tbytes Tryz.prog 84 = some 8 := by kernel_rfl
theorem tzero84 : tzero Tryz.prog 84 = some [.nilf] := by kernel_rfl
theorem tzv84 : tzv Tryz.prog 84 = some (.nilf) := by kernel_rfl
theorem tsz85 : tsz Tryz.prog 85 = some 1 := by kernel_rfl
theorem tagg85 : tagg Tryz.prog 85 = some false := by kernel_rfl
theorem tbytes85 : tbytes Tryz.prog 85 = some 8 := by kernel_rfl
theorem tzero85 : tzero Tryz.prog 85 = some [.nilf] := by kernel_rfl
theorem tzv85 : tzv Tryz.prog 85 = some (.nilf) := by kernel_rfl
theorem tsz86 : tsz Tryz.prog 86 = some 3 := by kernel_rfl
theorem tagg86 : tagg Tryz.prog 86 = some true := by kernel_rfl
theorem tarr86 : tarr Tryz.prog 86 = none := by kernel_rfl
theorem tbytes86 : tbytes Tryz.prog 86 = some 40 := by kernel_rfl
theorem tzero86 : tzero Tryz.prog 86 = some [.int .i64 0, .int .i64 0, .nils] := by kernel_rfl
theorem tzv86 : tzv Tryz.prog 86 = some (.agg [.int .i64 0, .int .i64 0, .nils]) := by kernel_rfl
theorem tplaces86 : tplaces Tryz.prog 86 = some [(0, 1), (1, 1), (2, 1)] := by kernel_rfl
theorem tfld86_0 : tfld Tryz.prog 86 0 = some (0, 3) := by kernel_rfl
theorem tfld86_1 : tfld Tryz.prog 86 1 = some (1, 3) := by kernel_rfl
theorem tfld86_2 : tfld Tryz.prog 86 2 = some (2, 28) := by kernel_rfl
theorem tsz87 : tsz Tryz.prog 87 = some 3 := by kernel_rfl
theorem tagg87 : tagg Tryz.prog 87 = some true := by kernel_rfl
theorem tarr87 : tarr Tryz.prog 87 = none := by kernel_rfl
theorem tbytes87 : tbytes Tryz.prog 87 = some 40 := by kernel_rfl
theorem tzero87 : tzero Tryz.prog 87 = some [.int .i64 0, .int .i64 0, .nils] := by kernel_rfl
theorem tzv87 : tzv Tryz.prog 87 = some (.agg [.int .i64 0, .int .i64 0, .nils]) := by kernel_rfl
theorem tplaces87 : tplaces Tryz.prog 87 = some [(0, 1), (1, 1), (2, 1)] := by kernel_rfl
theorem tfld87_0 : tfld Tryz.prog 87 0 = some (0, 3) := by kernel_rfl
theorem tfld87_1 : tfld Tryz.prog 87 1 = some (1, 3) := by kernel_rfl
theorem tfld87_2 : tfld Tryz.prog 87 2 = some (2, 28) := by kernel_rfl
theorem tsz88 : tsz Tryz.prog 88 = some 1 := by kernel_rfl
theorem tagg88 : tagg Tryz.prog 88 = some false := by kernel_rfl
theorem tbytes88 : tbytes Tryz.prog 88 = some 8 := by kernel_rfl
theorem tzero88 : tzero Tryz.prog 88 = some [.nilf] := by kernel_rfl
theorem tzv88 : tzv Tryz.prog 88 = some (.nilf) := by kernel_rfl
theorem tsz89 : tsz Tryz.prog 89 = some 1 := by kernel_rfl
theorem tagg89 : tagg Tryz.prog 89 = some false := by kernel_rfl
theorem tbytes89 : tbytes Tryz.prog 89 = some 8 := by kernel_rfl
theorem tzero89 : tzero Tryz.prog 89 = some [.nilf] := by kernel_rfl
theorem tzv89 : tzv Tryz.prog 89 = some (.nilf) := by kernel_rfl
theorem tsz90 : tsz Tryz.prog 90 = some 1 := by kernel_rfl
theorem tagg90 : tagg Tryz.prog 90 = some false := by kernel_rfl
theorem tbytes90 : tbytes Tryz.prog 90 = some 8 := by kernel_rfl
theorem tzero90 : tzero Tryz.prog 90 = some [.nilf] := by kernel_rfl
theorem tzv90 : tzv Tryz.prog 90 = some (.nilf) := by kernel_rfl
theorem tsz91 : tsz Tryz.prog 91 = some 1 := by kernel_rfl
theorem tagg91 : tagg Tryz.prog 91 = some false := by kernel_rfl
theorem tbytes91 : tbytes Tryz.prog 91 = some 8 := by kernel_rfl
theorem tzero91 : tzero Tryz.prog 91 = some [.nilf] := by kernel_rfl
theorem tzv91 : tzv Tryz.prog 91 = some (.nilf) := by kernel_rfl
theorem tsz92 : tsz Tryz.prog 92 = some 3 := by kernel_rfl
theorem tagg92 : tagg Tryz.prog 92 = some true := by kernel_rfl
theorem tarr92 : tarr Tryz.prog 92 = none := by kernel_rfl
theorem tbytes92 : tbytes Tryz.prog 92 = some 24 := by kernel_rfl
theorem tzero92 : tzero Tryz.prog 92 = some [.int .i64 0, .int .u8 0, .int .i64 0] := by kernel_rfl
theorem tzv92 : tzv Tryz.prog 92 = some (.agg [.int .i64 0, .int .u8 0, .int .i64 0]) := by kernel_rfl
theorem tplaces92 : tplaces Tryz.prog 92 = some [(0, 1), (1, 1), (2, 1)] := by kernel_rfl
theorem tfld92_0 : tfld Tryz.prog 92 0 = some (0, 3) := by kernel_rfl
theorem tfld92_1 : tfld Tryz.prog 92 1 = some (1, 5) := by kernel_rfl
theorem tfld92_2 : tfld Tryz.prog 92 2 = some (2, 3) := by kernel_rfl
theorem tsz93 : tsz Tryz.prog 93 = some 3 := by kernel_rfl
theorem tagg93 : tagg Tryz.prog 93 = some true := by kernel_rfl
theorem tarr93 : tarr Tryz.prog 93 = none := by kernel_rfl
theorem tbytes93 : tbytes Tryz.prog 93 = some 24 := by kernel_rfl
theorem tzero93 : tzero Tryz.prog 93 = some [.int .i64 0, .int .u8 0, .int .i64 0] := by kernel_rfl
theorem tzv93 : tzv Tryz.prog 93 = some (.agg [.int .i64 0, .int .u8 0, .int .i64 0]) := by kernel_rfl
theorem tplaces93 : tplaces Tryz.prog 93 = some [(0, 1), (1, 1), (2, 1)] := by kernel_rfl
theorem tfld93_0 : tfld Tryz.prog 93 0 = some (0, 3) := by kernel_rfl
theorem tfld93_1 : tfld Tryz.prog 93 1 = some (1, 5) := by kernel_rfl
theorem tfld93_2 : tfld Tryz.prog 93 2 = some (2, 3) := by kernel_rfl
theorem tsz94 : tsz Tryz.prog 94 = some 1 := by kernel_rfl
theorem tagg94 : tagg Tryz.prog 94 = some false := by kernel_rfl
theorem tbytes94 : tbytes Tryz.prog 94 = some 8 := by kernel_rfl
theorem tzero94 : tzero Tryz.prog 94 = some [.nilf] := by kernel_rfl
theorem tzv94 : tzv Tryz.prog 94 = some (.nilf) := by kernel_rfl
theorem tsz95 : tsz Tryz.prog 95 = some 3 := by kernel_rfl
theorem tagg95 : tagg Tryz.prog 95 = some true := by kernel_rfl
theorem tarr95 : tarr Tryz.prog 95 = none := by kernel_rfl
theorem tbytes95 : tbytes Tryz.prog 95 = some 24 := by kernel_rfl
theorem tzero95 : tzero Tryz.prog 95 = some [.int .i64 0, .int .i64 0, .int .i64 0] := by kernel_rfl
theorem tzv95 : tzv Tryz.prog 95 = some (.agg [.int .i64 0, .int .i64 0, .int .i64 0]) := by kernel_rfl
theorem tplaces95 : tplaces Tryz.prog 95 = some [(0, 1), (1, 1), (2, 1)] := by kernel_rfl
theorem tfld95_0 : tfld Tryz.prog 95 0 = some (0, 3) := by kernel_rfl
theorem tfld95_1 : tfld Tryz.prog 95 1 = some (1, 3) := by kernel_rfl
theorem tfld95_2 : tfld Tryz.prog 95 2 = some (2, 3) := by kernel_rfl
theorem tsz96 : tsz Tryz.prog 96 = some 3 := by kernel_rfl
theorem tagg96 : tagg Tryz.prog 96 = some true := by kernel_rfl
theorem tarr96 : tarr Tryz.prog 96 = none := by kernel_rfl
theorem tbytes96 : tbytes Tryz.prog 96 = some 24 := by kernel_rfl
theorem tzero96 : tzero Tryz.prog 96 = some [.int .i64 0, .int .i64 0, .int .i64 0] := by kernel_rfl
theorem tzv96 : tzv Tryz.prog 96 = some (.agg [.int .i64 0, .int .i64 0, .int .i64 0]) := by kernel_rfl
theorem tplaces96 : tplaces Tryz.prog 96 = some [(0, 1), (1, 1), (2, 1)] := by kernel_rfl
theorem tfld96_0 : tfld Tryz.prog 96 0 = some (0, 3) := by kernel_rfl
theorem tfld96_1 : tfld Tryz.prog 96 1 = some (1, 3) := by kernel_rfl
theorem tfld96_2 : tfld Tryz.prog 96 2 = some (2, 3) := by kernel_rfl
theorem tsz97 : tsz Tryz.prog 97 = some 3 := by kernel_rfl
theorem tagg97 : tagg Tryz.prog 97 = some true := by kernel_rfl
theorem tarr97 : tarr Tryz.prog 97 = none := by kernel_rfl
theorem tbytes97 : tbytes Tryz.prog 97 = some 24 := by kernel_rfl
theorem tzero97 : tzero Tryz.prog 97 = some [.int .i64 0, .int .i64 0, .int .i64 0] := by kernel_rfl
theorem tzv97 : tzv Tryz.prog 97 = some (.agg [.int .i64 0, .int .i64 0, .int .i64 0]) := by kernel_rfl
theorem tplaces97 : tplaces Tryz.prog 97 = some [(0, 1), (1, 1), (2, 1)] := by kernel_rfl
theorem tfld97_0 : tfld Tryz.prog 97 0 = some (0, 3) := by kernel_rfl
theorem tfld97_1 : tfld Tryz.prog 97 1 = some (1, 3) := by kernel_rfl
theorem tfld97_2 : tfld Tryz.prog 97 2 = some (2, 3) := by kernel_rfl
theorem tsz98 : tsz Tryz.prog 98 = some 1 := by kernel_rfl
theorem tagg98 : tagg Tryz.prog 98 = some false := by kernel_rfl
theorem tbytes98 : tbytes Tryz.prog 98 = some 8 := by kernel_rfl
theorem tzero98 : tzero Tryz.prog 98 = some [.nilf] := by kernel_rfl
theorem tzv98 : tzv Tryz.prog 98 = some (.nilf) := by kernel_rfl
theorem tsz99 : tsz Tryz.prog 99 = some 1 := by kernel_rfl
theorem tagg99 : tagg Tryz.prog 99 = some false := by kernel_rfl
theorem tbytes99 : tbytes Tryz.prog 99 = some 8 := by kernel_rfl
theorem tzero99 : tzero Tryz.prog 99 = some [.nilf] := by kernel_rfl
theorem tzv99 : tzv Tryz.prog 99 = some (.nilf) := by kernel_rfl
theorem tsz100 : tsz Tryz.prog 100 = some 1 := by kernel_rfl
theorem tagg100 : tagg Tryz.prog 100 = some false := by kernel_rfl
theorem tbytes100 : tbytes Tryz.prog 100 = some 8 := by kernel_rfl
theorem tzero100 : tzero Tryz.prog 100 = some [.nilf] := by kernel_rfl
theorem tzv100 : tzv Tryz.prog 100 = some (.nilf) := by kernel_rfl
theorem tsz101 : tsz Tryz.prog 101 = some 1 := by kernel_rfl
theorem tagg101 : tagg Tryz.prog 101 = some false := by kernel_rfl
theorem tbytes101 : tbytes Tryz.prog 101 = some 8 := by kernel_rfl
theorem tzero101 : tzero Tryz.prog 101 = some [.nilf] := by kernel_rfl
theorem tzv101 : tzv Tryz.prog 101 = some (.nilf) := by kernel_rfl
theorem tsz102 : tsz Tryz.prog 102 = some 1 := by kernel_rfl
theorem tagg102 : tagg Tryz.prog 102 = some false := by kernel_rfl
theorem tslice102 : tslice Tryz.prog 102 = some 109 := by kernel_rfl
theorem tbytes102 : tbytes Tryz.prog 102 = some 24 := by kernel_rfl
theorem tzero102 : tzero Tryz.prog 102 = some [.nils] := by kernel_rfl
theorem tzv102 : tzv Tryz.prog 102 = some (.nils) := by kernel_rfl
theorem tsz103 : tsz Tryz.prog 103 = some 12 := by kernel_rfl
theorem tagg103 : tagg Tryz.prog 103 = some true := by kernel_rfl
theorem tarr103 : tarr Tryz.prog 103 = none := by kernel_rfl
theorem tbytes103 : tbytes Tryz.prog 103 = some 160 := by kernel_rfl
theorem tzero103 : tzero Tryz.prog 103 = some [.nils, .int .i64 0, .int .i64 0, .int .i64 0, .int .i64 0, .int .i64 0, .int .i64 0, .int .i64 0, .int .i64 0, .nils, .nils, .nils] := by kernel_rfl
theorem tzv103 : tzv Tryz.prog 103 = some (.agg [.nils, .int .i64 0, .int .i64 0, .int .i64 0, .int .i64 0, .int .i64 0, .int .i64 0, .int .i64 0, .int .i64 0, .nils, .nils, .nils]) := by kernel_rfl
theorem tplaces103 : tplaces Tryz.prog 103 = some [(0, 10), (10, 1), (11, 1)] := by kernel_rfl
theorem tfld103_0 : tfld Tryz.prog 103 0 = some (0, 56) := by kernel_rfl
theorem tfld103_1 : tfld Tryz.prog 103 1 = some (10, 58) := by kernel_rfl
theorem tfld103_2 : tfld Tryz.prog 103 2 = some (11, 28) := by kernel_rfl
theorem tsz104 : tsz Tryz.prog 104 = some 12 := by kernel_rfl
theorem tagg104 : tagg Tryz.prog 104 = some true := by kernel_rfl
theorem tarr104 : tarr Tryz.prog 104 = none := by kernel_rfl
theorem tbytes104 : tbytes Tryz.prog 104 = some 160 := by kernel_rfl
theorem tzero104 : tzero Tryz.prog 104 = some [.nils, .int .i64 0, .int .i64 0, .int .i64 0, .int .i64 0, .int .i64 0, .int .i64 0, .int .i64 0, .int .i64 0, .nils, .nils, .nils] := by kernel_rfl
theorem tzv104 : tzv Tryz.prog 104 = some (.agg [.nils, .int .i64 0, .int .i64 0, .int .i64 0, .int .i64 0, .int .i64 0, .int .i64 0, .int .i64 0, .int .i64 0, .nils, .nils, .nils]) := by kernel_rfl
theorem tplaces104 : tplaces Tryz.prog 104 = some [(0, 10), (10, 1), (11, 1)] := by kernel_rfl
theorem tfld104_0 : tfld Tryz.prog 104 0 = some (0, 56) := by kernel_rfl
theorem tfld104_1 : tfld Tryz.prog 104 1 = some (10, 58) := by kernel_rfl
theorem tfld104_2 : tfld Tryz.prog 104 2 = some (11, 28) := by kernel_rfl
theorem tsz105 : tsz Tryz.prog 105 = some 1 := by kernel_rfl
theorem tagg105 : tagg Tryz.prog 105 = some false := by kernel_rfl
theorem tbytes105 : tbytes Tryz.prog 105 = some 8 := by kernel_rfl
theorem tzero105 : tzero Tryz.prog 105 = some [.nilf] := by kernel_rfl
theorem tzv105 : tzv Tryz.prog 105 = some (.nilf) := by kernel_rfl
theorem tsz106 : tsz Tryz.prog 106 = some 4 := by kernel_rfl
theorem tagg106 : tagg Tryz.prog 106 = some true := by kernel_rfl
theorem tslice106 : tslice Tryz.prog 106 = none := by kernel_rfl
theorem tarr106 : tarr Tryz.prog 106 = some (2, 53) := by kernel_rfl
theorem tbytes106 : tbytes Tryz.prog 106 = some 32 := by kernel_rfl
theorem tzero106 : tzero Tryz.prog 106 = some [.int .i64 0, .int .i64 0, .int .i64 0, .int .i64 0] := by kernel_rfl
theorem tzv106 : tzv Tryz.prog 106 = some (.agg [.int .i64 0, .int .i64 0, .int .i64 0, .int .i64 0]) := by kernel_rfl
theorem tsz107 : tsz Tryz.prog 107 = some 4 := by kernel_rfl
theorem tagg107 : tagg Tryz.prog 107 = some true := by kernel_rfl
theorem tslice107 : tslice Tryz.prog 107 = none := by kernel_rfl
theorem tarr107 : tarr Tryz.prog 107 = some (2, 53) := by kernel_rfl
theorem tbytes107 : tbytes Tryz.prog 107 = some 32 := by kernel_rfl
theorem tzero107 : tzero Tryz.prog 107 = some [.int .i64 0, .int .i64 0, .int .i64 0, .int .i64 0] := by kernel_rfl
theorem tzv107 : tzv Tryz.prog 107 = some (.agg [.int .i64 0, .int .i64 0, .int .i64 0, .int .i64 0]) := by kernel_rfl
theorem tsz108 : tsz Tryz.prog 108 = some 5 := by kernel_rfl
theorem tagg108 : tagg Tryz.prog 108 = some true := by kernel_rfl
theorem tarr108 : tarr Tryz.prog 108 = none := by kernel_rfl
theorem tbytes108 : tbytes Tryz.prog 108 = some 40 := by kernel_rfl
theorem tzero108 : tzero Tryz.prog 108 = some [.int .i64 0, .int .i64 0, .int .i64 0, .int .i64 0, .int .i64 0] := by kernel_rfl
theorem tzv108 : tzv Tryz.prog 108 = some (.agg [.int .i64 0, .int .i64 0, .int .i64 0, .int .i64 0, .int .i64 0]) := by kernel_rfl
theorem tplaces108 : tplaces Tryz.prog 108 = some [(0, 4), (4, 1)] := by kernel_rfl
theorem tfld108_0 : tfld Tryz.prog 108 0 = some (0, 107) := by kernel_rfl
theorem tfld108_1 : tfld Tryz.prog 108 1 = some (4, 3) := by kernel_rfl
theorem tsz109 : tsz Tryz.prog 109 = some 5 := by kernel_rfl
theorem tagg109 : tagg Tryz.prog 109 = some true := by kernel_rfl
theorem tarr109 : tarr Tryz.prog 109 = none := by kernel_rfl
theorem tbytes109 : tbytes Tryz.prog 109 = some 40 := by kernel_rfl
theorem tzero109 : tzero Tryz.prog 109 = some [.int .i64 0, .int .i64 0, .int .i64 0, .int .i64 0, .int .i64 0] := by kernel_rfl
theorem tzv109 : tzv Tryz.prog 109 = some (.agg [.int .i64 0, .int .i64 0, .int .i64 0, .int .i64 0, .int .i64 0]) := by kernel_rfl
theorem tplaces109 : tplaces Tryz.prog 109 = some [(0, 4), (4, 1)] := by kernel_rfl
theorem tfld109_0 : tfld Tryz.prog 109 0 = some (0, 107) := by kernel_rfl
theorem tfld109_1 : tfld Tryz.prog 109 1 = some (4, 3) := by kernel_rfl
theorem tsz110 : tsz Tryz.prog 110 = some 1 := by kernel_rfl
theorem tagg110 : tagg Tryz.prog 110 = some false := by kernel_rfl
theorem tbytes110 : tbytes Tryz.prog 110 = some 8 := by kernel_rfl
theorem tzero110 : tzero Tryz.prog 110 = some [.nilf] := by kernel_rfl
theorem tzv110 : tzv Tryz.prog 110 = some (.nilf) := by kernel_rfl
theorem tsz111 : tsz Tryz.prog 111 = some 1 := by kernel_rfl
theorem tagg111 : tagg Tryz.prog 111 = some false := by kernel_rfl
theorem tbytes111 : tbytes Tryz.prog 111 = some 8 := by kernel_rfl
theorem tzero111 : tzero Tryz.prog 111 = some [.nilf] := by kernel_rfl
theorem tzv111 : tzv Tryz.prog 111 = some (.nilf) := by kernel_rfl
theorem tsz112 : tsz Tryz.prog 112 = some 1 := by kernel_rfl
theorem tagg112 : tagg Tryz.prog 112 = some false := by kernel_rfl
theorem tbytes112 : tbytes Tryz.prog 112 = some 8 := by kernel_rfl
theorem tzero112 : tzero Tryz.prog 112 = some [.nilf] := by kernel_rfl
theorem tzv112 : tzv Tryz.prog 112 = some (.nilf) := by kernel_rfl
theorem tsz113 : tsz Tryz.prog 113 = some 1 := by kernel_rfl
theorem tagg113 : tagg Tryz.prog 113 = some false := by kernel_rfl
theorem tbytes113 : tbytes Tryz.prog 113 = some 8 := by kernel_rfl
theorem tzero113 : tzero Tryz.prog 113 = some [.nilf] := by kernel_rfl
theorem tzv113 : tzv Tryz.prog 113 = some (.nilf) := by kernel_rfl
theorem tsz114 : tsz Tryz.prog 114 = some 3 := by kernel_rfl
theorem tagg114 : tagg Tryz.prog 114 = some true := by kernel_rfl
theorem tarr114 : tarr Tryz.prog 114 = none := by kernel_rfl
theorem tbytes114 : tbytes Tryz.prog 114 = some 24 := by kernel_rfl
theorem tzero114 : tzero Tryz.prog 114 = some [.int .i64 0, .int .i64 0, .int .i64 0] := by kernel_rfl
theorem tzv114 : tzv Tryz.prog 114 = some (.agg [.int .i64 0, .int .i64 0, .int .i64 0]) := by kernel_rfl
theorem tplaces114 : tplaces Tryz.prog 114 = some [(0, 1), (1, 1), (2, 1)] := by kernel_rfl
theorem tfld114_0 : tfld Tryz.prog 114 0 = some (0, 3) := by kernel_rfl
theorem tfld114_1 : tfld Tryz.prog 114 1 = some (1, 3) := by kernel_rfl
theorem tfld114_2 : tfld Tryz.prog 114 2 = some (2, 3) := by kernel_rfl
theorem tsz115 : tsz Tryz.prog 115 = some 1 := by kernel_rfl
theorem tagg115 : tagg Tryz.prog 115 = some false := by kernel_rfl
theorem tbytes115 : tbytes Tryz.prog 115 = some 8 := by kernel_rfl
theorem tzero115 : tzero Tryz.prog 115 = some [.nilf] := by kernel_rfl
theorem tzv115 : tzv Tryz.prog 115 = some (.nilf) := by kernel_rfl
theorem tsz116 : tsz Tryz.prog 116 = some 1 := by kernel_rfl
theorem tagg116 : tagg Tryz.prog 116 = some false := by kernel_rfl
theorem tbytes116 : tbytes Tryz.prog 116 = some 8 := by kernel_rfl
theorem tzero116 : tzero Tryz.prog 116 = some [.nilp] := by kernel_rfl
theorem tzv116 : tzv Tryz.prog 116 = some (.nilp) := by kernel_rfl
theorem tsz117 : tsz Tryz.prog 117 = some 1 := by kernel_rfl
theorem tagg117 : tagg Tryz.prog 117 = some false := by kernel_rfl
theorem tbytes117 : tbytes Tryz.prog 117 = some 8 := by kernel_rfl
theorem tzero117 : tzero Tryz.prog 117 = some [.nilf] := by kernel_rfl
theorem tzv117 : tzv Tryz.prog 117 = some (.nilf) := by kernel_rfl
theorem tsz118 : tsz Tryz.prog 118 = some 1 := by kernel_rfl
theorem tagg118 : tagg Tryz.prog 118 = some false := by kernel_rfl
theorem tint118 : tint Tryz.prog 118 = some .u8 := by kernel_rfl
theorem tund118 : (Tryz.prog.underlying 118).isSome = true := by kernel_rfl
theorem tbytes118 : tbytes Tryz.prog 118 = some 1 := by kernel_rfl
theorem tzero118 : tzero Tryz.prog 118 = some [.int .u8 0] := by kernel_rfl
theorem tzv118 : tzv Tryz.prog 118 = some (.int .u8 0) := by kernel_rfl
theorem tsz119 : tsz Tryz.prog 119 = some 3 := by kernel_rfl
theorem tagg119 : tagg Tryz.prog 119 = some true := by kernel_rfl
theorem tslice119 : tslice Tryz.prog 119 = none := by kernel_rfl
theorem tarr119 : tarr Tryz.prog 119 = some (3, 3) := by kernel_rfl
theorem tbytes119 : tbytes Tryz.prog 119 = some 24 := by kernel_rfl
theorem tzero119 : tzero Tryz.prog 119 = some [.int .i64 0, .int .i64 0, .int .i64 0] := by kernel_rfl
theorem tzv119 : tzv Tryz.prog 119 = some (.agg [.int .i64 0, .int .i64 0, .int .i64 0]) := by kernel_rfl
theorem tsz120 : tsz Tryz.prog 120 = some 4 := by kernel_rfl
theorem tagg120 : tagg Tryz.prog 120 = some true := by kernel_rfl
theorem tarr120 : tarr Tryz.prog 120 = none := by kernel_rfl
theorem tbytes120 : tbytes Tryz.prog 120 = some 32 := by kernel_rfl
theorem tzero120 : tzero Tryz.prog 120 = some [.int .u8 0, .int .i64 0, .int .i64 0, .int .i64 0] := by kernel_rfl
theorem tzv120 : tzv Tryz.prog 120 = some (.agg [.int .u8 0, .int .i64 0, .int .i64 0, .int .i64 0]) := by kernel_rfl
theorem tplaces120 : tplaces Tryz.prog 120 = some [(0, 1), (1, 3)] := by kernel_rfl
theorem tfld120_0 : tfld Tryz.prog 120 0 = some (0, 118) := by kernel_rfl
theorem tfld120_1 : tfld Tryz.prog 120 1 = some (1, 119) := by kernel_rfl
theorem tsz121 : tsz Tryz.prog 121 = some 4 := by kernel_rfl
theorem tagg121 : tagg Tryz.prog 121 = some true := by kernel_rfl
theorem tarr121 : tarr Tryz.prog 121 = none := by kernel_rfl
theorem tbytes121 : tbytes Tryz.prog 121 = some 32 := by kernel_rfl
theorem tzero121 : tzero Tryz.prog 121 = some [.int .u8 0, .int .i64 0, .int .i64 0, .int .i64 0] := by kernel_rfl
theorem tzv121 : tzv Tryz.prog 121 = some (.agg [.int .u8 0, .int .i64 0, .int .i64 0, .int .i64 0]) := by kernel_rfl
theorem tplaces121 : tplaces Tryz.prog 121 = some [(0, 1), (1, 3)] := by kernel_rfl
theorem tfld121_0 : tfld Tryz.prog 121 0 = some (0, 118) := by kernel_rfl
theorem tfld121_1 : tfld Tryz.prog 121 1 = some (1, 119) := by kernel_rfl
theorem tsz122 : tsz Tryz.prog 122 = some 1 := by kernel_rfl
theorem tagg122 : tagg Tryz.prog 122 = some false := by kernel_rfl
theorem tbytes122 : tbytes Tryz.prog 122 = some 8 := by kernel_rfl
theorem tzero122 : tzero Tryz.prog 122 = some [.nilf] := by kernel_rfl
theorem tzv122 : tzv Tryz.prog 122 = some (.nilf) := by kernel_rfl
theorem tsz123 : tsz Tryz.prog 123 = some 1 := by kernel_rfl
theorem tagg123 : tagg Tryz.prog 123 = some false := by kernel_rfl
theorem tbytes123 : tbytes Tryz.prog 123 = some 8 := by kernel_rfl
theorem tzero123 : tzero Tryz.prog 123 = some [.nilf] := by kernel_rfl
theorem tzv123 : tzv Tryz.prog 123 = some (.nilf) := by kernel_rfl
theorem tsz124 : tsz Tryz.prog 124 = some 1 := by kernel_rfl
theorem tagg124 : tagg Tryz.prog 124 = some false := by kernel_rfl
theorem tbytes124 : tbytes Tryz.prog 124 = some 8 := by kernel_rfl
theorem tzero124 : tzero Tryz.prog 124 = some [.nilf] := by kernel_rfl
theorem tzv124 : tzv Tryz.prog 124 = some (.nilf) := by kernel_rfl
theorem tsz125 : tsz Tryz.prog 125 = some 1 := by kernel_rfl
theorem tagg125 : tagg Tryz.prog 125 = some false := by kernel_rfl
theorem tbytes125 : tbytes Tryz.prog 125 = some 8 := by kernel_rfl
theorem tzero125 : tzero Tryz.prog 125 = some [.nilf] := by kernel_rfl
theorem tzv125 : tzv Tryz.prog 125 = some (.nilf) := by kernel_rfl
theorem tsz126 : tsz Tryz.prog 126 = some 1 := by kernel_rfl
theorem tagg126 : tagg Tryz.prog 126 = some false := by kernel_rfl
theorem tbytes126 : tbytes Tryz.prog 126 = some 8 := by kernel_rfl
theorem tzero126 : tzero Tryz.prog 126 = some [.nilf] := by kernel_rfl
theorem tzv126 : tzv Tryz.prog 126 = some (.nilf) := by kernel_rfl
theorem tsz127 : tsz Tryz.prog 127 = some 1 := by kernel_rfl
theorem tagg127 : tagg Tryz.prog 127 = some false := by kernel_rfl
theorem tbytes127 : tbytes Tryz.prog 127 = some 8 := by kernel_rfl
theorem tzero127 : tzero Tryz.prog 127 = some [.nilf] := by kernel_rfl
theorem tzv127 : tzv Tryz.prog 127 = some (.nilf) := by kernel_rfl
theorem tsz128 : tsz Tryz.prog 128 = some 6 := by kernel_rfl
theorem tagg128 : tagg Tryz.prog 128 = some true := by kernel_rfl
theorem tarr128 : tarr Tryz.prog 128 = none := by kernel_rfl
theorem tbytes128 : tbytes Tryz.prog 128 = some 48 := by kernel_rfl
theorem tzero128 : tzero Tryz.prog 128 = some [.int .i64 0, .int .u8 0, .int .i64 0, .int .i64 0, .int .i64 0, .int .i64 0] := by kernel_rfl
theorem tzv128 : tzv Tryz.prog 128 = some (.agg [.int .i64 0, .int .u8 0, .int .i64 0, .int .i64 0, .int .i64 0, .int .i64 0]) := by kernel_rfl
theorem tplaces128 : tplaces Tryz.prog 128 = some [(0, 1), (1, 1), (2, 2), (4, 1), (5, 1)] := by kernel_rfl
theorem tfld128_0 : tfld Tryz.prog 128 0 = some (0, 3) := by kernel_rfl
theorem tfld128_1 : tfld Tryz.prog 128 1 = some (1, 5) := by kernel_rfl
theorem tfld128_2 : tfld Tryz.prog 128 2 = some (2, 74) := by kernel_rfl
theorem tfld128_3 : tfld Tryz.prog 128 3 = some (4, 3) := by kernel_rfl
theorem tfld128_4 : tfld Tryz.prog 128 4 = some (5, 3) := by kernel_rfl
theorem tsz129 : tsz Tryz.prog 129 = some 6 := by kernel_rfl
theorem tagg129 : tagg Tryz.prog 129 = some true := by kernel_rfl
theorem tarr129 : tarr Tryz.prog 129 = none := by kernel_rfl
theorem tbytes129 : tbytes Tryz.prog 129 = some 48 := by kernel_rfl
theorem tzero129 : tzero Tryz.prog 129 = some [.int .i64 0, .int .u8 0, .int .i64 0, .int .i64 0, .int .i64 0, .int .i64 0] := by kernel_rfl
theorem tzv129 : tzv Tryz.prog 129 = some (.agg [.int .i64 0, .int .u8 0, .int .i64 0, .int .i64 0, .int .i64 0, .int .i64 0]) := by kernel_rfl
theorem tplaces129 : tplaces Tryz.prog 129 = some [(0, 1), (1, 1), (2, 2), (4, 1), (5, 1)] := by kernel_rfl
theorem tfld129_0 : tfld Tryz.prog 129 0 = some (0, 3) := by kernel_rfl
theorem tfld129_1 : tfld Tryz.prog 129 1 = some (1, 5) := by kernel_rfl
theorem tfld129_2 : tfld Tryz.prog 129 2 = some (2, 74) := by kernel_rfl
theorem tfld129_3 : tfld Tryz.prog 129 3 = some (4, 3) := by kernel_rfl
theorem tfld129_4 : tfld Tryz.prog 129 4 = some (5, 3) := by kernel_rfl
theorem tsz130 : tsz Tryz.prog 130 = some 3 := by kernel_rfl
theorem tagg130 : tagg Tryz.prog 130 = some true := by kernel_rfl
theorem tarr130 : tarr Tryz.prog 130 = none := by kernel_rfl
theorem tbytes130 : tbytes Tryz.prog 130 = some 24 := by kernel_rfl
theorem tzero130 : tzero Tryz.prog 130 = some [.int .i64 0, .int .u8 0, .int .i64 0] := by kernel_rfl
theorem tzv130 : tzv Tryz.prog 130 = some (.agg [.int .i64 0, .int .u8 0, .int .i64 0]) := by kernel_rfl
theorem tplaces130 : tplaces Tryz.prog 130 = some [(0, 1), (1, 1), (2, 1)] := by kernel_rfl
theorem tfld130_0 : tfld Tryz.prog 130 0 = some (0, 3) := by kernel_rfl
theorem tfld130_1 : tfld Tryz.prog 130 1 = some (1, 5) := by kernel_rfl
theorem tfld130_2 : tfld Tryz.prog 130 2 = some (2, 3) := by kernel_rfl
theorem tsz131 : tsz Tryz.prog 131 = some 1 := by kernel_rfl
theorem tagg131 : tagg Tryz.prog 131 = some false := by kernel_rfl
theorem tint131 : tint Tryz.prog 131 = some .u16 := by kernel_rfl
theorem tund131 : (Tryz.prog.underlying 131).isSome = true := by kernel_rfl
theorem tbytes131 : tbytes Tryz.prog 131 = some 2 := by kernel_rfl
theorem tzero131 : tzero Tryz.prog 131 = some [.int .u16 0] := by kernel_rfl
theorem tzv131 : tzv Tryz.prog 131 = some (.int .u16 0) := by kernel_rfl
theorem tsz132 : tsz Tryz.prog 132 = some 1 := by kernel_rfl
theorem tagg132 : tagg Tryz.prog 132 = some false := by kernel_rfl
theorem tbytes132 : tbytes Tryz.prog 132 = some 8 := by kernel_rfl
theorem tzero132 : tzero Tryz.prog 132 = some [.nilf] := by kernel_rfl
theorem tzv132 : tzv Tryz.prog 132 = some (.nilf) := by kernel_rfl
theorem tsz133 : tsz Tryz.prog 133 = some 1 := by kernel_rfl
theorem tagg133 : tagg Tryz.prog 133 = some false := by kernel_rfl
theorem tbytes133 : tbytes Tryz.prog 133 = some 8 := by kernel_rfl
theorem tzero133 : tzero Tryz.prog 133 = some [.nilf] := by kernel_rfl
theorem tzv133 : tzv Tryz.prog 133 = some (.nilf) := by kernel_rfl
theorem tsz134 : tsz Tryz.prog 134 = some 1 := by kernel_rfl
theorem tagg134 : tagg Tryz.prog 134 = some false := by kernel_rfl
theorem tbytes134 : tbytes Tryz.prog 134 = some 8 := by kernel_rfl
theorem tzero134 : tzero Tryz.prog 134 = some [.nilf] := by kernel_rfl
theorem tzv134 : tzv Tryz.prog 134 = some (.nilf) := by kernel_rfl
theorem tsz135 : tsz Tryz.prog 135 = some 1 := by kernel_rfl
theorem tagg135 : tagg Tryz.prog 135 = some false := by kernel_rfl
theorem tbytes135 : tbytes Tryz.prog 135 = some 8 := by kernel_rfl
theorem tzero135 : tzero Tryz.prog 135 = some [.nilf] := by kernel_rfl
theorem tzv135 : tzv Tryz.prog 135 = some (.nilf) := by kernel_rfl
theorem tsz136 : tsz Tryz.prog 136 = some 1 := by kernel_rfl
theorem tagg136 : tagg Tryz.prog 136 = some false := by kernel_rfl
theorem tbytes136 : tbytes Tryz.prog 136 = some 8 := by kernel_rfl
theorem tzero136 : tzero Tryz.prog 136 = some [.nilf] := by kernel_rfl
theorem tzv136 : tzv Tryz.prog 136 = some (.nilf) := by kernel_rfl
theorem tsz137 : tsz Tryz.prog 137 = some 1 := by kernel_rfl
theorem tagg137 : tagg Tryz.prog 137 = some false := by kernel_rfl
theorem tbytes137 : tbytes Tryz.prog 137 = some 8 := by kernel_rfl
theorem tzero137 : tzero Tryz.prog 137 = some [.nilf] := by kernel_rfl
theorem tzv137 : tzv Tryz.prog 137 = some (.nilf) := by kernel_rfl
theorem tsz138 : tsz Tryz.prog 138 = some 1 := by kernel_rfl
theorem tagg138 : tagg Tryz.prog 138 = some false := by kernel_rfl
theorem tbytes138 : tbytes Tryz.prog 138 = some 8 := by kernel_rfl
theorem tzero138 : tzero Tryz.prog 138 = some [.nilf] := by kernel_rfl
theorem tzv138 : tzv Tryz.prog 138 = some (.nilf) := by kernel_rfl
theorem tsz139 : tsz Tryz.prog 139 = some 1 := by kernel_rfl
theorem tagg139 : tagg Tryz.prog 139 = some false := by kernel_rfl
theorem tbytes139 : tbytes Tryz.prog 139 = some 8 := by kernel_rfl
theorem tzero139 : tzero Tryz.prog 139 = some [.nilf] := by kernel_rfl
theorem tzv139 : tzv Tryz.prog 139 = some (.nilf) := by kernel_rfl
theorem tsz140 : tsz Tryz.prog 140 = some 1 := by kernel_rfl
theorem tagg140 : tagg Tryz.prog 140 = some false := by kernel_rfl
theorem tbytes140 : tbytes Tryz.prog 140 = some 0 := by kernel_rfl
theorem tsz141 : tsz Tryz.prog 141 = some 1 := by kernel_rfl
theorem tagg141 : tagg Tryz.prog 141 = some false := by kernel_rfl
theorem tbytes141 : tbytes Tryz.prog 141 = some 8 := by kernel_rfl
theorem tzero141 : tzero Tryz.prog 141 = some [.nilf] := by kernel_rfl
theorem tzv141 : tzv Tryz.prog 141 = some (.nilf) := by kernel_rfl
theorem tsz142 : tsz Tryz.prog 142 = some 1 := by kernel_rfl
theorem tagg142 : tagg Tryz.prog 142 = some false := by kernel_rfl
theorem tbytes142 : tbytes Tryz.prog 142 = some 8 := by kernel_rfl
theorem tzero142 : tzero Tryz.prog 142 = some [.nilf] := by kernel_rfl
theorem tzv142 : tzv Tryz.prog 142 = some (.nilf) := by kernel_rfl
theorem tsz143 : tsz Tryz.prog 143 = some 1 := by kernel_rfl
theorem tagg143 : tagg Tryz.prog 143 = some false := by kernel_rfl
theorem tbytes143 : tbytes Tryz.prog 143 = some 8 := by kernel_rfl
theorem tzero143 : tzero Tryz.prog 143 = some [.nilf] := by kernel_rfl
theorem tzv143 : tzv Tryz.prog 143 = some (.nilf) := by kernel_rfl
theorem tsz144 : tsz Tryz.prog 144 = some 1 := by kernel_rfl
theorem tagg144 : tagg Tryz.prog 144 = some false := by kernel_rfl
theorem tbytes144 : tbytes Tryz.prog 144 = some 8 := by kernel_rfl
theorem tzero144 : tzero Tryz.prog 144 = some [.nilf] := by kernel_rfl
theorem tzv144 : tzv Tryz.prog 144 = some (.nilf) := by kernel_rfl
theorem tsz145 : tsz Tryz.prog 145 = some 1 := by kernel_rfl
theorem tagg145 : tagg Tryz.prog 145 = some false := by kernel_rfl
theorem tbytes145 : tbytes Tryz.prog 145 = some 8 := by kernel_rfl
theorem tzero145 : tzero Tryz.prog 145 = some [.nilf] := by kernel_rfl
theorem tzv145 : tzv Tryz.prog 145 = some (.nilf) := by kernel_rfl
theorem tsz146 : tsz Tryz.prog 146 = some 1 := by kernel_rfl
theorem tagg146 : tagg Tryz.prog 146 = some false := by kernel_rfl
theorem tbytes146 : tbytes Tryz.prog 146 = some 8 := by kernel_rfl
theorem tzero146 : tzero Tryz.prog 146 = some [.nilf] := by kernel_rfl
theorem tzv146 : tzv Tryz.prog 146 = some (.nilf) := by kernel_rfl
theorem tsz147 : tsz Tryz.prog 147 = some 1 := by kernel_rfl
theorem tagg147 : tagg Tryz.prog 147 = some false := by kernel_rfl
theorem tbytes147 : tbytes Tryz.prog 147 = some 8 := by kernel_rfl
theorem tzero147 : tzero Tryz.prog 147 = some [.nilf] := by kernel_rfl
theorem tzv147 : tzv Tryz.prog 147 = some (.nilf) := by kernel_rfl
theorem tsz148 : tsz Tryz.prog 148 = some 1 := by kernel_rfl
theorem tagg148 : tagg Tryz.prog 148 = some false := by kernel_rfl
theorem tbytes148 : tbytes Tryz.prog 148 = some 8 := by kernel_rfl
theorem tzero148 : tzero Tryz.prog 148 = some [.nilf] := by kernel_rfl
theorem tzv148 : tzv Tryz.prog 148 = some (.nilf) := by kernel_rfl
theorem tsz149 : tsz Tryz.prog 149 = some 1 := by kernel_rfl
theorem tagg149 : tagg Tryz.prog 149 = some false := by kernel_rfl
theorem tmap149 : tmap Tryz.prog 149 = some (121, 3) := by kernel_rfl
theorem tbytes149 : tbytes Tryz.prog 149 = some 8 := by kernel_rfl
theorem tzero149 : tzero Tryz.prog 149 = some [.nilm] := by kernel_rfl
theorem tzv149 : tzv Tryz.prog 149 = some (.nilm) := by kernel_rfl
theorem tsz150 : tsz Tryz.prog 150 = some 7 := by kernel_rfl
theorem tagg150 : tagg Tryz.prog 150 = some true := by kernel_rfl
theorem tarr150 : tarr Tryz.prog 150 = none := by kernel_rfl
theorem tbytes150 : tbytes Tryz.prog 150 = some 104 := by kernel_rfl
theorem tzero150 : tzero Tryz.prog 150 = some [.nils, .nils, .int .i64 0, .int .i64 0, .int .i64 0, .nils, .nilm] := by kernel_rfl
theorem tzv150 : tzv Tryz.prog 150 = some (.agg [.nils, .nils, .int .i64 0, .int .i64 0, .int .i64 0, .nils, .nilm]) := by kernel_rfl
theorem tplaces150 : tplaces Tryz.prog 150 = some [(0, 5), (5, 1), (6, 1)] := by kernel_rfl
theorem tfld150_0 : tfld Tryz.prog 150 0 = some (0, 76) := by kernel_rfl
theorem tfld150_1 : tfld Tryz.prog 150 1 = some (5, 28) := by kernel_rfl
theorem tfld150_2 : tfld Tryz.prog 150 2 = some (6, 149) := by kernel_rfl
theorem tsz151 : tsz Tryz.prog 151 = some 7 := by kernel_rfl
theorem tagg151 : tagg Tryz.prog 151 = some true := by kernel_rfl
theorem tarr151 : tarr Tryz.prog 151 = none := by kernel_rfl
theorem tbytes151 : tbytes Tryz.prog 151 = some 104 := by kernel_rfl
theorem tzero151 : tzero Tryz.prog 151 = some [.nils, .nils, .int .i64 0, .int .i64 0, .int .i64 0, .nils, .nilm] := by kernel_rfl
theorem tzv151 : tzv Tryz.prog 151 = some (.agg [.nils, .nils, .int .i64 0, .int .i64 0, .int .i64 0, .nils, .nilm]) := by kernel_rfl
theorem tplaces151 : tplaces Tryz.prog 151 = some [(0, 5), (5, 1), (6, 1)] := by kernel_rfl
theorem tfld151_0 : tfld Tryz.prog 151 0 = some (0, 76) := by kernel_rfl
theorem tfld151_1 : tfld Tryz.prog 151 1 = some (5, 28) := by kernel_rfl
theorem tfld151_2 : tfld Tryz.prog 151 2 = some (6, 149) := by kernel_rfl
theorem tsz152 : tsz Tryz.prog 152 = some 1 := by kernel_rfl
theorem tagg152 : tagg Tryz.prog 152 = some false := by kernel_rfl
theorem tbytes152 : tbytes Tryz.prog 152 = some 0 := by kernel_rfl
theorem tsz153 : tsz Tryz.prog 153 = some 1 := by kernel_rfl
theorem tagg153 : tagg Tryz.prog 153 = some false := by kernel_rfl
theorem tbytes153 : tbytes Tryz.prog 153 = some 8 := by kernel_rfl
theorem tzero153 : tzero Tryz.prog 153 = some [.nilf] := by kernel_rfl
theorem tzv153 : tzv Tryz.prog 153 = some (.nilf) := by kernel_rfl
theorem tsz154 : tsz Tryz.prog 154 = some 1 := by kernel_rfl
theorem tagg154 : tagg Tryz.prog 154 = some false := by kernel_rfl
theorem tbytes154 : tbytes Tryz.prog 154 = some 8 := by kernel_rfl
theorem tzero154 : tzero Tryz.prog 154 = some [.nilf] := by kernel_rfl
theorem tzv154 : tzv Tryz.prog 154 = some (.nilf) := by kernel_rfl
theorem tsz155 : tsz Tryz.prog 155 = some 1 := by kernel_rfl
theorem tagg155 : tagg Tryz.prog 155 = some false := by kernel_rfl
theorem tbytes155 : tbytes Tryz.prog 155 = some 8 := by kernel_rfl
theorem tzero155 : tzero Tryz.prog 155 = some [.nilf] := by kernel_rfl
theorem tzv155 : tzv Tryz.prog 155 = some (.nilf) := by kernel_rfl
theorem tsz156 : tsz Tryz.prog 156 = some 1 := by kernel_rfl
theorem tagg156 : tagg Tryz.prog 156 = some false := by kernel_rfl
theorem tbytes156 : tbytes Tryz.prog 156 = some 8 := by kernel_rfl
theorem tzero156 : tzero Tryz.prog 156 = some [.nilf] := by kernel_rfl
theorem tzv156 : tzv Tryz.prog 156 = some (.nilf) := by kernel_rfl
theorem tsz157 : tsz Tryz.prog 157 = some 1 := by kernel_rfl
theorem tagg157 : tagg Tryz.prog 157 = some false := by kernel_rfl
theorem tbytes157 : tbytes Tryz.prog 157 = some 8 := by kernel_rfl
theorem tzero157 : tzero Tryz.prog 157 = some [.nilf] := by kernel_rfl
theorem tzv157 : tzv Tryz.prog 157 = some (.nilf) := by kernel_rfl
theorem tsz158 : tsz Tryz.prog 158 = some 1 := by kernel_rfl
theorem tagg158 : tagg Tryz.prog 158 = some false := by kernel_rfl
theorem tbytes158 : tbytes Tryz.prog 158 = some 8 := by kernel_rfl
theorem tzero158 : tzero Tryz.prog 158 = some [.nilf] := by kernel_rfl
theorem tzv158 : tzv Tryz.prog 158 = some (.nilf) := by kernel_rfl
theorem tsz159 : tsz Tryz.prog 159 = some 1 := by kernel_rfl
theorem tagg159 : tagg Tryz.prog 159 = some false := by kernel_rfl
theorem tbytes159 : tbytes Tryz.prog 159 = some 8 := by kernel_rfl
theorem tzero159 : tzero Tryz.prog 159 = some [.nilf] := by kernel_rfl
theorem tzv159 : tzv Tryz.prog 159 = some (.nilf) := by kernel_rfl
theorem tsz160 : tsz Tryz.prog 160 = some 1 := by kernel_rfl
theorem tagg160 : tagg Tryz.prog 160 = some false := by kernel_rfl
theorem tbytes160 : tbytes Tryz.prog 160 = some 8 := by kernel_rfl
theorem tzero160 : tzero Tryz.prog 160 = some [.nilf] := by kernel_rfl
theorem tzv160 : tzv Tryz.prog 160 = some (.nilf) := by kernel_rfl
theorem tsz161 : tsz Tryz.prog 161 = some 1 := by kernel_rfl
theorem tagg161 : tagg Tryz.prog 161 = some false := by kernel_rfl
theorem tbytes161 : tbytes Tryz.prog 161 = some 8 := by kernel_rfl
theorem tzero161 : tzero Tryz.prog 161 = some [.nilf] := by kernel_rfl
theorem tzv161 : tzv Tryz.prog 161 = some (.nilf) := by kernel_rfl
theorem tsz162 : tsz Tryz.prog 162 = some 1 := by kernel_rfl
theorem tagg162 : tagg Tryz.prog 162 = some false := by kernel_rfl
theorem tbytes162 : tbytes Tryz.prog 162 = some 8 := by kernel_rfl
theorem tzero162 : tzero Tryz.prog 162 = some [.nilf] := by kernel_rfl
theorem tzv162 : tzv Tryz.prog 162 = some (.nilf) := by kernel_rfl
theorem tsz163 : tsz Tryz.prog 163 = some 1 := by kernel_rfl
theorem tagg163 : tagg Tryz.prog 163 = some false := by kernel_rfl
theorem tbytes163 : tbytes Tryz.prog 163 = some 8 := by kernel_rfl
theorem tzero163 : tzero Tryz.prog 163 = some [.nilf] := by kernel_rfl
theorem tzv163 : tzv Tryz.prog 163 = some (.nilf) := by kernel_rfl
theorem tsz164 : tsz Tryz.prog 164 = some 1 := by kernel_rfl
theorem tagg164 : tagg Tryz.prog 164 = some true := by kernel_rfl
theorem tarr164 : tarr Tryz.prog 164 = none := by kernel_rfl
theorem tbytes164 : tbytes Tryz.prog 164 = some 8 := by kernel_rfl
theorem tzero164 : tzero Tryz.prog 164 = some [.nilf] := by kernel_rfl
theorem tzv164 : tzv Tryz.prog 164 = some (.agg [.nilf]) := by kernel_rfl
theorem tplaces164 : tplaces Tryz.prog 164 = some [(0, 1)] := by kernel_rfl
theorem tfld164_0 : tfld Tryz.prog 164 0 = some (0, 163) := by kernel_rfl
theorem tsz165 : tsz Tryz.prog 165 = some 1 := by kernel_rfl
theorem tagg165 : tagg Tryz.prog 165 = some true := by kernel_rfl
theorem tarr165 : tarr Tryz.prog 165 = none := by kernel_rfl
theorem tbytes165 : tbytes Tryz.prog 165 = some 8 := by kernel_rfl
theorem tzero165 : tzero Tryz.prog 165 = some [.nilf] := by kernel_rfl
theorem tzv165 : tzv Tryz.prog 165 = some (.agg [.nilf]) := by kernel_rfl
theorem tplaces165 : tplaces Tryz.prog 165 = some [(0, 1)] := by kernel_rfl
theorem tfld165_0 : tfld Tryz.prog 165 0 = some (0, 163) := by kernel_rfl
theorem tsz166 : tsz Tryz.prog 166 = some 1 := by kernel_rfl
theorem tagg166 : tagg Tryz.prog 166 = some false := by kernel_rfl
theorem tslice166 : tslice Tryz.prog 166 = some 165 := by kernel_rfl
theorem tbytes166 : tbytes Tryz.prog 166 = some 24 := by kernel_rfl
theorem tzero166 : tzero Tryz.prog 166 = some [.nils] := by kernel_rfl
theorem tzv166 : tzv Tryz.prog 166 = some (.nils) := by kernel_rfl
theorem tsz167 : tsz Tryz.prog 167 = some 1 := by kernel_rfl
theorem tagg167 : tagg Tryz.prog 167 = some false := by kernel_rfl
theorem tbytes167 : tbytes Tryz.prog 167 = some 8 := by kernel_rfl
theorem tzero167 : tzero Tryz.prog 167 = some [.nilf] := by kernel_rfl
theorem tzv167 : tzv Tryz.prog 167 = some (.nilf) := by kernel_rfl
theorem tsz168 : tsz Tryz.prog 168 = some 1 := by kernel_rfl
theorem tagg168 : tagg Tryz.prog 168 = some false := by kernel_rfl
theorem tbytes168 : tbytes Tryz.prog 168 = some 8 := by kernel_rfl
theorem tzero168 : tzero Tryz.prog 168 = some [.nilf] := by kernel_rfl
theorem tzv168 : tzv Tryz.prog 168 = some (.nilf) := by kernel_rfl
theorem tsz169 : tsz Tryz.prog 169 = some 1 := by kernel_rfl
theorem tagg169 : tagg Tryz.prog 169 = some false := by kernel_rfl
theorem tbytes169 : tbytes Tryz.prog 169 = some 8 := by kernel_rfl
theorem tzero169 : tzero Tryz.prog 169 = some [.nilf] := by kernel_rfl
theorem tzv169 : tzv Tryz.prog 169 = some (.nilf) := by kernel_rfl
theorem tsz170 : tsz Tryz.prog 170 = some 1 := by kernel_rfl
theorem tagg170 : tagg Tryz.prog 170 = some false := by kernel_rfl
theorem tbytes170 : tbytes Tryz.prog 170 = some 8 := by kernel_rfl
theorem tzero170 : tzero Tryz.prog 170 = some [.nilf] := by kernel_rfl
theorem tzv170 : tzv Tryz.prog 170 = some (.nilf) := by kernel_rfl
theorem tsz171 : tsz Tryz.prog 171 = some 1 := by kernel_rfl
theorem tagg171 : tagg Tryz.prog 171 = some false := by kernel_rfl
theorem tbytes171 : tbytes Tryz.prog 171 = some 8 := by kernel_rfl
theorem tzero171 : tzero Tryz.prog 171 = some [.nilf] := by kernel_rfl
theorem tzv171 : tzv Tryz.prog 171 = some (.nilf) := by kernel_rfl
theorem tsz172 : tsz Tryz.prog 172 = some 1 := by kernel_rfl
theorem tagg172 : tagg Tryz.prog 172 = some false := by kernel_rfl
theorem tbytes172 : tbytes Tryz.prog 172 = some 8 := by kernel_rfl
theorem tzero172 : tzero Tryz.prog 172 = some [.nilf] := by kernel_rfl
theorem tzv172 : tzv Tryz.prog 172 = some (.nilf) := by kernel_rfl
theorem tsz173 : tsz Tryz.prog 173 = some 1 := by kernel_rfl
theorem tagg173 : tagg Tryz.prog 173 = some false := by kernel_rfl
theorem tbytes173 : tbytes Tryz.prog 173 = some 8 := by kernel_rfl
theorem tzero173 : tzero Tryz.prog 173 = some [.nilf] := by kernel_rfl
theorem tzv173 : tzv Tryz.prog 173 = some (.nilf) := by kernel_rfl
theorem tsz174 : tsz Tryz.prog 174 = some 1 := by kernel_rfl
theorem tagg174 : tagg Tryz.prog 174 = some false := by kernel_rfl
theorem tbytes174 : tbytes Tryz.prog 174 = some 8 := by kernel_rfl
theorem tzero174 : tzero Tryz.prog 174 = some [.nilf] := by kernel_rfl
theorem tzv174 : tzv Tryz.prog 174 = some (.nilf) := by kernel_rfl
theorem tsz175 : tsz Tryz.prog 175 = some 4 := by kernel_rfl
theorem tagg175 : tagg Tryz.prog 175 = some true := by kernel_rfl
theorem tarr175 : tarr Tryz.prog 175 = none := by kernel_rfl
theorem tbytes175 : tbytes Tryz.prog 175 = some 40 := by kernel_rfl
theorem tzero175 : tzero Tryz.prog 175 = some [.nilp, .nilp, .nilp, .str (ByteArray.mk #[])] := by kernel_rfl
theorem tzv175 : tzv Tryz.prog 175 = some (.agg [.nilp, .nilp, .nilp, .str (ByteArray.mk #[])]) := by kernel_rfl
theorem tplaces175 : tplaces Tryz.prog 175 = some [(0, 1), (1, 1), (2, 1), (3, 1)] := by kernel_rfl
theorem tfld175_0 : tfld Tryz.prog 175 0 = some (0, 17) := by kernel_rfl
theorem tfld175_1 : tfld Tryz.prog 175 1 = some (1, 17) := by kernel_rfl
theorem tfld175_2 : tfld Tryz.prog 175 2 = some (2, 17) := by kernel_rfl
theorem tfld175_3 : tfld Tryz.prog 175 3 = some (3, 9) := by kernel_rfl
attribute [go_sem] tsz0 tagg0 tbytes0 tsz1 tagg1 tbytes1 tzero1 tzv1 tsz2 tagg2 tint2 tund2 tbytes2 tzero2 tzv2 tsz3 tagg3 tint3 tund3 tbytes3 tzero3 tzv3 tsz4 tagg4 tbytes4 tzero4 tzv4 tsz5 tagg5 tint5 tund5 tbytes5 tzero5 tzv5 tsz6 tagg6 tint6 tund6 tbytes6 tzero6 tzv6 tsz7 tagg7 tarr7 tbytes7 tzero7 tzv7 tplaces7 tfld7_0 tfld7_1 tfld7_2 tfld7_3 tsz8 tagg8 tarr8 tbytes8 tzero8 tzv8 tplaces8 tfld8_0 tfld8_1 tfld8_2 tfld8_3 tsz9 tagg9 tbytes9 tzero9 tzv9 tsz10 tagg10 tbytes10 tzero10 tzv10 tsz11 tagg11 tbytes11 tzero11 tzv11 tsz12 tagg12 tint12 tund12 tbytes12 tzero12 tzv12 tsz13 tagg13 tarr13 tbytes13 tzero13 tzv13 tplaces13 tfld13_0 tfld13_1 tsz14 tagg14 tarr14 tbytes14 tzero14 tzv14 tplaces14 tfld14_0 tfld14_1 tsz15 tagg15 tbytes15 tzero15 tzv15 tsz16 tagg16 tbytes16 tzero16 tzv16 tsz17 tagg17 tbytes17 tzero17 tzv17 tsz18 tagg18 tarr18 tbytes18 tzero18 tzv18 tplaces18 tfld18_0 tsz19 tagg19 tarr19 tbytes19 tzero19 tzv19 tplaces19 tfld19_0 tsz20 tagg20 tbytes20 tsz21 tagg21 tint21 tund21 tbytes21 tzero21 tzv21 tsz22 tagg22 tslice22 tbytes22 tzero22 tzv22 tsz23 tagg23 tslice23 tbytes23 tzero23 tzv23 tsz24 tagg24 tarr24 tbytes24 tzero24 tzv24 tplaces24 tfld24_0 tfld24_1 tsz25 tagg25 tarr25 tbytes25 tzero25 tzv25 tplaces25 tfld25_0 tfld25_1 tsz26 tagg26 tarr26 tbytes26 tzero26 tzv26 tplaces26 tfld26_0 tfld26_1 tfld26_2 tfld26_3 tsz27 tagg27 tarr27 tbytes27 tzero27 tzv27 tplaces27 tfld27_0 tfld27_1 tfld27_2 tfld27_3 tsz28 tagg28 tslice28 tbytes28 tzero28 tzv28 tsz29 tagg29 tarr29 tbytes29 tzero29 tzv29 tplaces29 tfld29_0 tfld29_1 tsz30 tagg30 tslice30 tbytes30 tzero30 tzv30 tsz31 tagg31 tarr31 tbytes31 tzero31 tzv31 tplaces31 tfld31_0 tfld31_1 tfld31_2 tfld31_3 tfld31_4 tfld31_5 tfld31_6 tsz32 tagg32 tarr32 tbytes32 tzero32 tzv32 tplaces32 tfld32_0 tfld32_1 tfld32_2 tfld32_3 tfld32_4 tfld32_5 tfld32_6 tsz33 tagg33 tslice33 tbytes33 tzero33 tzv33 tsz34 tagg34 tarr34 tbytes34 tzero34 tzv34 tplaces34 tfld34_0 tfld34_1 tsz35 tagg35 tarr35 tbytes35 tzero35 tzv35 tplaces35 tfld35_0 tfld35_1 tsz36 tagg36 tslice36 tbytes36 tzero36 tzv36 tsz37 tagg37 tslice37 tbytes37 tzero37 tzv37 tsz38 tagg38 tbytes38 tzero38 tzv38 tsz39 tagg39 tbytes39 tzero39 tzv39 tsz40 tagg40 tbytes40 tzero40 tzv40 tsz41 tagg41 tbytes41 tzero41 tzv41 tsz42 tagg42 tbytes42 tzero42 tzv42 tsz43 tagg43 tbytes43 tzero43 tzv43 tsz44 tagg44 tbytes44 tzero44 tzv44 tsz45 tagg45 tbytes45 tzero45 tzv45 tsz46 tagg46 tbytes46 tzero46 tzv46 tsz47 tagg47 tarr47 tbytes47 tzero47 tzv47 tplaces47 tfld47_0 tfld47_1 tfld47_2 tsz48 tagg48 tarr48 tbytes48 tzero48 tzv48 tplaces48 tfld48_0 tfld48_1 tfld48_2 tsz49 tagg49 tslice49 tbytes49 tzero49 tzv49 tsz50 tagg50 tint50 tund50 tbytes50 tzero50 tzv50 tsz51 tagg51 tbytes51 tsz52 tagg52 tbytes52 tzero52 tzv52 tsz53 tagg53 tarr53 tbytes53 tzero53 tzv53 tplaces53 tfld53_0 tfld53_1 tsz54 tagg54 tslice54 tbytes54 tzero54 tzv54 tsz55 tagg55 tarr55 tbytes55 tzero55 tzv55 tplaces55 tfld55_0 tfld55_1 tfld55_2 tfld55_3 tfld55_4 tfld55_5 tfld55_6 tsz56 tagg56 tarr56 tbytes56 tzero56 tzv56 tplaces56 tfld56_0 tfld56_1 tfld56_2 tfld56_3 tfld56_4 tfld56_5 tfld56_6 tsz57 tagg57 tbytes57 tzero57 tzv57 tsz58 tagg58 tslice58 tbytes58 tzero58 tzv58 tsz59 tagg59 tbytes59 tzero59 tzv59 tsz60 tagg60 tarr60 tbytes60 tzero60 tzv60 tplaces60 tfld60_0 tfld60_1 tsz61 tagg61 tarr61 tbytes61 tzero61 tzv61 tplaces61 tfld61_0 tfld61_1 tsz62 tagg62 tbytes62 tzero62 tzv62 tsz63 tagg63 tslice63 tbytes63 tzero63 tzv63 tsz64 tagg64 tbytes64 tzero64 tzv64 tsz65 tagg65 tarr65 tbytes65 tzero65 tzv65 tplaces65 tfld65_0 tfld65_1 tfld65_2 tsz66 tagg66 tarr66 tbytes66 tzero66 tzv66 tplaces66 tfld66_0 tfld66_1 tfld66_2 tsz67 tagg67 tarr67 tbytes67 tzero67 tzv67 tplaces67 tfld67_0 tfld67_1 tfld67_2 tfld67_3 tfld67_4 tsz68 tagg68 tarr68 tbytes68 tzero68 tzv68 tplaces68 tfld68_0 tfld68_1 tfld68_2 tfld68_3 tfld68_4 tsz69 tagg69 tslice69 tbytes69 tzero69 tzv69 tsz70 tagg70 tbytes70 tsz71 tagg71 tbytes71 tzero71 tzv71 tsz72 tagg72 tslice72 tbytes72 tzero72 tzv72 tsz73 tagg73 tslice73 tbytes73 tzero73 tzv73 tsz74 tagg74 tarr74 tbytes74 tzero74 tzv74 tplaces74 tfld74_0 tfld74_1 tsz75 tagg75 tarr75 tbytes75 tzero75 tzv75 tplaces75 tfld75_0 tfld75_1 tfld75_2 tfld75_3 tsz76 tagg76 tarr76 tbytes76 tzero76 tzv76 tplaces76 tfld76_0 tfld76_1 tfld76_2 tfld76_3 tsz77 tagg77 tbytes77 tzero77 tzv77 tsz78 tagg78 tbytes78 tzero78 tzv78 tsz79 tagg79 tarr79 tbytes79 tzero79 tzv79 tplaces79 tfld79_0 tfld79_1 tfld79_2 tfld79_3 tsz80 tagg80 tarr80 tbytes80 tzero80 tzv80 tplaces80 tfld80_0 tfld80_1 tfld80_2 tfld80_3 tsz81 tagg81 tbytes81 tsz82 tagg82 tbytes82 tzero82 tzv82 tsz83 tagg83 tarr83 tbytes83 tzero83 tzv83 tplaces83 tfld83_0 tfld83_1 tfld83_2 tfld83_3 tsz84 tagg84 tbytes84 tzero84 tzv84 tsz85 tagg85 tbytes85 tzero85 tzv85 tsz86 tagg86 tarr86 tbytes86 tzero86 tzv86 tplaces86 tfld86_0 tfld86_1 tfld86_2 tsz87 tagg87 tarr87 tbytes87 tzero87 tzv87 tplaces87 tfld87_0 tfld87_1 tfld87_2 tsz88 tagg88 tbytes88 tzero88 tzv88 tsz89 tagg89 tbytes89 tzero89 tzv89 tsz90 tagg90 tbytes90 tzero90 tzv90 tsz91 tagg91 tbytes91 tzero91 tzv91 tsz92 tagg92 tarr92 tbytes92 tzero92 tzv92 tplaces92 tfld92_0 tfld92_1 tfld92_2 tsz93 tagg93 tarr93 tbytes93 tzero93 tzv93 tplaces93 tfld93_0 tfld93_1 tfld93_2 tsz94 tagg94 tbytes94 tzero94 tzv94 tsz95 tagg95 tarr95 tbytes95 tzero95 tzv95 tplaces95 tfld95_0 tfld95_1 tfld95_2 tsz96 tagg96 tarr96 tbytes96 tzero96 tzv96 tplaces96 tfld96_0 tfld96_1 tfld96_2 tsz97 tagg97 tarr97 tbytes97 tzero97 tzv97 tplaces97 tfld97_0 tfld97_1 tfld97_2 tsz98 tagg98 tbytes98 tzero98 tzv98 tsz99 tagg99 tbytes99 tzero99 tzv99 tsz100 tagg100 tbytes100 tzero100 tzv100 tsz101 tagg101 tbytes101 tzero101 tzv101 tsz102 tagg102 tslice102 tbytes102 tzero102 tzv102 tsz103 tagg103 tarr103 tbytes103 tzero103 tzv103 tplaces103 tfld103_0 tfld103_1 tfld103_2 tsz104 tagg104 tarr104 tbytes104 tzero104 tzv104 tplaces104 tfld104_0 tfld104_1 tfld104_2 tsz105 tagg105 tbytes105 tzero105 tzv105 tsz106 tagg106 tslice106 tarr106 tbytes106 tzero106 tzv106 tsz107 tagg107 tslice107 tarr107 tbytes107 tzero107 tzv107 tsz108 tagg108 tarr108 tbytes108 tzero108 tzv108 tplaces108 tfld108_0 tfld108_1 tsz109 tagg109 tarr109 tbytes109 tzero109 tzv109 tplaces109 tfld109_0 tfld109_1 tsz110 tagg110 tbytes110 tzero110 tzv110 tsz111 tagg111 tbytes111 tzero111 tzv111 tsz112 tagg112 tbytes112 tzero112 tzv112 tsz113 tagg113 tbytes113 tzero113 tzv113 tsz114 tagg114 tarr114 tbytes114 tzero114 tzv114 tplaces114 tfld114_0 tfld114_1 tfld114_2 tsz115 tagg115 tbytes115 tzero115 tzv115 tsz116 tagg116 tbytes116 tzero116 tzv116 tsz117 tagg117 tbytes117 tzero117 tzv117 tsz118 tagg118 tint118 tund118 tbytes118 tzero118 tzv118 tsz119 tagg119 tslice119 tarr119 tbytes119 tzero119 tzv119 tsz120 tagg120 tarr120 tbytes120 tzero120 tzv120 tplaces120 tfld120_0 tfld120_1 tsz121 tagg121 tarr121 tbytes121 tzero121 tzv121 tplaces121 tfld121_0 tfld121_1 tsz122 tagg122 tbytes122 tzero122 tzv122 tsz123 tagg123 tbytes123 tzero123 tzv123 tsz124 tagg124 tbytes124 tzero124 tzv124 tsz125 tagg125 tbytes125 tzero125 tzv125 tsz126 tagg126 tbytes126 tzero126 tzv126 tsz127 tagg127 tbytes127 tzero127 tzv127 tsz128 tagg128 tarr128 tbytes128 tzero128 tzv128 tplaces128 tfld128_0 tfld128_1 tfld128_2 tfld128_3 tfld128_4 tsz129 tagg129 tarr129 tbytes129 tzero129 tzv129 tplaces129 tfld129_0 tfld129_1 tfld129_2 tfld129_3 tfld129_4 tsz130 tagg130 tarr130 tbytes130 tzero130 tzv130 tplaces130 tfld130_0 tfld130_1 tfld130_2 tsz131 tagg131 tint131 tund131 tbytes131 tzero131 tzv131 tsz132 tagg132 tbytes132 tzero132 tzv132 tsz133 tagg133 tbytes133 tzero133 tzv133 tsz134 tagg134 tbytes134 tzero134 tzv134 tsz135 tagg135 tbytes135 tzero135 tzv135 tsz136 tagg136 tbytes136 tzero136 tzv136 tsz137 tagg137 tbytes137 tzero137 tzv137 tsz138 tagg138 tbytes138 tzero138 tzv138 tsz139 tagg139 tbytes139 tzero139 tzv139 tsz140 tagg140 tbytes140 tsz141 tagg141 tbytes141 tzero141 tzv141 tsz142 tagg142 tbytes142 tzero142 tzv142 tsz143 tagg143 tbytes143 tzero143 tzv143 tsz144 tagg144 tbytes144 tzero144 tzv144 tsz145 tagg145 tbytes145 tzero145 tzv145 tsz146 tagg146 tbytes146 tzero146 tzv146 tsz147 tagg147 tbytes147 tzero147 tzv147 tsz148 tagg148 tbytes148 tzero148 tzv148 tsz149 tagg149 tmap149 tbytes149 tzero149 tzv149 tsz150 tagg150 tarr150 tbytes150 tzero150 tzv150 tplaces150 tfld150_0 tfld150_1 tfld150_2 tsz151 tagg151 tarr151 tbytes151 tzero151 tzv151 tplaces151 tfld151_0 tfld151_1 tfld151_2 tsz152 tagg152 tbytes152 tsz153 tagg153 tbytes153 tzero153 tzv153 tsz154 tagg154 tbytes154 tzero154 tzv154 tsz155 tagg155 tbytes155 tzero155 tzv155 tsz156 tagg156 tbytes156 tzero156 tzv156 tsz157 tagg157 tbytes157 tzero157 tzv157 tsz158 tagg158 tbytes158 tzero158 tzv158 tsz159 tagg159 tbytes159 tzero159 tzv159 tsz160 tagg160 tbytes160 tzero160 tzv160 tsz161 tagg161 tbytes161 tzero161 tzv161 tsz162 tagg162 tbytes162 tzero162 tzv162 tsz163 tagg163 tbytes163 tzero163 tzv163 tsz164 tagg164 tarr164 tbytes164 tzero164 tzv164 tplaces164 tfld164_0 tsz165 tagg165 tarr165 tbytes165 tzero165 tzv165 tplaces165 tfld165_0 tsz166 tagg166 tslice166 tbytes166 tzero166 tzv166 tsz167 tagg167 tbytes167 tzero167 tzv167 tsz168 tagg168 tbytes168 tzero168 tzv168 tsz169 tagg169 tbytes169 tzero169 tzv169 tsz170 tagg170 tbytes170 tzero170 tzv170 tsz171 tagg171 tbytes171 tzero171 tzv171 tsz172 tagg172 tbytes172 tzero172 tzv172 tsz173 tagg173 tbytes173 tzero173 tzv173 tsz174 tagg174 tbytes174 tzero174 tzv174 tsz175 tagg175 tarr175 tbytes175 tzero175 tzv175 tplaces175 tfld175_0 tfld175_1 tfld175_2 tfld175_3
end Go.Am
namespace Go.Am
open Go.RowKit Go.Proofs
attribute [local irreducible] AWP CallS Kt goK CallK stepK evOps
set_option maxRecDepth 4000
set_option linter.unusedSimpArgs false
set_option linter.unusedVariables false
set_option maxHeartbeats 400000
structure Home where
  people : Int
  pets : Int
  lo : Int
  hi : Int
  walk : Int
  gone : Int
structure Hall where
  room : Int
  pets : Int
  drive : Int
instance : Inhabited Home := ⟨⟨0, 0, 0, 0, 0, 0⟩⟩
instance : Inhabited Hall := ⟨⟨0, 0, 0⟩⟩
structure Town where
  homes : List Home
  halls : List Hall
  seats : Int
  clo : Int
  chi : Int
def homeC (h : Home) : List AV := [.int .i64 h.people, .int .u8 h.pets, .int .i64 h.lo, .int .i64 h.hi, .int .i64 h.walk, .int .i64 h.gone]
def hallC (h : Hall) : List AV := [.int .i64 h.room, .int .u8 h.pets, .int .i64 h.drive]
def slH (l : List Home) : AV := .psl false l.length (recs homeC l)
def slL (l : List Hall) : AV := .psl false l.length (recs hallC l)
def townC (t : Town) : List AV := [slH t.homes, slL t.halls, .int .i64 t.seats, .int .i64 t.clo, .int .i64 t.chi]
attribute [go_sem] List.append_eq homeC hallC slH slL townC
section
variable {α : Type} {enc : α → List AV} {sz : Nat} {l : List α} {d : α} {P : Program} {t : TypeId}
theorem ld_recs (ht : tagg P t = some true) (hs : tsz P t = some sz) (he : ∀ a, (enc a).length = sz) (hz : 0 < sz) {i : Nat} {K : AV → Prop} : loadK P t (recs enc l) (i * sz) K = (i < l.length ∧ K (.agg (enc (l.getD i d)))) := by
  simp only [loadK, ht, hs, recs_length he]
  by_cases hi : i < l.length
  · have : i * sz + sz ≤ l.length * sz := by
      rw [show i * sz + sz = (i + 1) * sz by rw [Nat.add_mul, Nat.one_mul]]; exact Nat.mul_le_mul_right _ hi
    rw [recs_window (d := d) he hi]
    simp [this, hi]
  · have : ¬ i * sz + sz ≤ l.length * sz := by
      intro h
      rw [show i * sz + sz = (i + 1) * sz by rw [Nat.add_mul, Nat.one_mul]] at h
      have := Nat.le_of_mul_le_mul_right h hz
      omega
    simp [this, hi]
theorem nth_recs (he : ∀ a, (enc a).length = sz) {i o : Nat} (ho : o < sz) {K : AV → Prop} : optK (nth (recs enc l) (i * sz + o)) K = (i < l.length ∧ optK (nth (enc (l.getD i d)) o) K) := by
  by_cases hi : i < l.length
  · rw [recs_nth (d := d) he hi ho]; simp [hi]
  · have : nth (recs enc l) (i * sz + o) = none := by
      rw [← nth_is, List.getElem?_eq_none]
      rw [recs_length he]
      have := Nat.mul_le_mul_right sz (Nat.le_of_not_lt hi)
      omega
    simp [this, hi, optK]
theorem ld_recsub {n o : Nat} (ht : tagg P t = some true) (hs : tsz P t = some n) (he : ∀ a, (enc a).length = sz) (hn : 0 < n) (ho : o + n ≤ sz) {i : Nat} {K : AV → Prop} : loadK P t (recs enc l) (i * sz + o) K = (i < l.length ∧ K (.agg (window (enc (l.getD i d)) o n))) := by
  simp only [loadK, ht, hs, recs_length he]
  by_cases hi : i < l.length
  · have h1 : i * sz + sz ≤ l.length * sz := by
      rw [show i * sz + sz = (i + 1) * sz by rw [Nat.add_mul, Nat.one_mul]]; exact Nat.mul_le_mul_right _ hi
    have h2 : window (recs enc l) (i * sz + o) n = window (enc (l.getD i d)) o n := by
      simp only [window]
      rw [← List.drop_drop, recs_at (d := d) he hi, List.drop_append_of_le_length (by rw [he]; omega), List.take_append_of_le_length (by rw [List.length_drop, he]; omega)]
    rw [h2]
    simp [show i * sz + o + n ≤ l.length * sz by omega, hi]
  · have : ¬ i * sz + o + n ≤ l.length * sz := by
      have := Nat.mul_le_mul_right sz (Nat.le_of_not_lt hi)
      omega
    simp [this, hi]
end
theorem pl_H {l : List Home} : pureL (recs homeC l) = True := eq_true (recs_pure fun s => by simp [pureL, homeC, cellPure])
theorem lv_H {l : List Home} {p : Nat → Bool} : (recs homeC l).all (live2 p) = true := recs_live fun s => by simp [pureL, homeC, cellPure]
theorem len_H {l : List Home} : (recs homeC l).length = l.length * 6 := recs_length fun _ => rfl
theorem ld_H {l : List Home} {i : Nat} {K : AV → Prop} : loadK Tryz.prog 129 (recs homeC l) (i * 6) K = (i < l.length ∧ K (.agg (homeC (l.getD i default)))) := ld_recs tagg129 tsz129 (fun _ => rfl) (by omega)
theorem nth_H0 {l : List Home} {i : Nat} {K : AV → Prop} : optK (nth (recs homeC l) (i * 6)) K = (i < l.length ∧ K (.int .i64 (l.getD i default).people)) := nth_recs (sz := 6) (o := 0) (fun _ => rfl) (by omega)
theorem nth_H1 {l : List Home} {i : Nat} {K : AV → Prop} : optK (nth (recs homeC l) (i * 6 + 1)) K = (i < l.length ∧ K (.int .u8 (l.getD i default).pets)) := nth_recs (sz := 6) (o := 1) (fun _ => rfl) (by omega)
theorem nth_H2 {l : List Home} {i : Nat} {K : AV → Prop} : optK (nth (recs homeC l) (i * 6 + 2)) K = (i < l.length ∧ K (.int .i64 (l.getD i default).lo)) := nth_recs (sz := 6) (o := 2) (fun _ => rfl) (by omega)
theorem nth_H3 {l : List Home} {i : Nat} {K : AV → Prop} : optK (nth (recs homeC l) (i * 6 + 3)) K = (i < l.length ∧ K (.int .i64 (l.getD i default).hi)) := nth_recs (sz := 6) (o := 3) (fun _ => rfl) (by omega)
theorem nth_H4 {l : List Home} {i : Nat} {K : AV → Prop} : optK (nth (recs homeC l) (i * 6 + 4)) K = (i < l.length ∧ K (.int .i64 (l.getD i default).walk)) := nth_recs (sz := 6) (o := 4) (fun _ => rfl) (by omega)
theorem nth_H5 {l : List Home} {i : Nat} {K : AV → Prop} : optK (nth (recs homeC l) (i * 6 + 5)) K = (i < l.length ∧ K (.int .i64 (l.getD i default).gone)) := nth_recs (sz := 6) (o := 5) (fun _ => rfl) (by omega)
theorem pl_L {l : List Hall} : pureL (recs hallC l) = True := eq_true (recs_pure fun s => by simp [pureL, hallC, cellPure])
theorem lv_L {l : List Hall} {p : Nat → Bool} : (recs hallC l).all (live2 p) = true := recs_live fun s => by simp [pureL, hallC, cellPure]
theorem len_L {l : List Hall} : (recs hallC l).length = l.length * 3 := recs_length fun _ => rfl
theorem ld_L {l : List Hall} {i : Nat} {K : AV → Prop} : loadK Tryz.prog 130 (recs hallC l) (i * 3) K = (i < l.length ∧ K (.agg (hallC (l.getD i default)))) := ld_recs tagg130 tsz130 (fun _ => rfl) (by omega)
theorem nth_L0 {l : List Hall} {i : Nat} {K : AV → Prop} : optK (nth (recs hallC l) (i * 3)) K = (i < l.length ∧ K (.int .i64 (l.getD i default).room)) := nth_recs (sz := 3) (o := 0) (fun _ => rfl) (by omega)
theorem nth_L1 {l : List Hall} {i : Nat} {K : AV → Prop} : optK (nth (recs hallC l) (i * 3 + 1)) K = (i < l.length ∧ K (.int .u8 (l.getD i default).pets)) := nth_recs (sz := 3) (o := 1) (fun _ => rfl) (by omega)
theorem nth_L2 {l : List Hall} {i : Nat} {K : AV → Prop} : optK (nth (recs hallC l) (i * 3 + 2)) K = (i < l.length ∧ K (.int .i64 (l.getD i default).drive)) := nth_recs (sz := 3) (o := 2) (fun _ => rfl) (by omega)
theorem ld_H38 {l : List Home} {i : Nat} {K : AV → Prop} : loadK Tryz.prog 74 (recs homeC l) (i * 6 + 2) K = (i < l.length ∧ K (.agg [.int .i64 (l.getD i default).lo, .int .i64 (l.getD i default).hi])) := ld_recsub (sz := 6) (n := 2) (o := 2) tagg74 tsz74 (fun _ => rfl) (by omega) (by omega)
theorem ld_H25 {l : List Home} {i : Nat} {K : AV → Prop} : loadK Tryz.prog 25 (recs homeC l) (i * 6 + 2) K = (i < l.length ∧ K (.agg [.int .i64 (l.getD i default).lo, .int .i64 (l.getD i default).hi])) := ld_recsub (sz := 6) (n := 2) (o := 2) tagg25 tsz25 (fun _ => rfl) (by omega) (by omega)
attribute [go_sem ↓] ld_H38 ld_H25
attribute [go_sem] pl_H lv_H len_H nth_H0 nth_H1 nth_H2 nth_H3 nth_H4 nth_H5 pl_L lv_L len_L nth_L0 nth_L1 nth_L2
attribute [go_sem ↓] ld_H ld_L
theorem cond_b {b : Bool} {A B : Prop} (h1 : b = true → A) (h2 : b = false → B) : condK (.bool b) A B := by
  cases b
  · exact h2 rfl
  · exact h1 rfl
theorem within_c (n lo hi : Int) : CallS Tryz.prog 59 [.int .i64 n, .int .i64 lo, .int .i64 hi] (.bool (decide (lo ≤ n ∧ n ≤ hi))) := by
  (refine callS_of_awp (fun w args => Tryz.call59 ..) Tryz.func59 rfl (fun w0 m0 wz => ?_); simp only [Tryz.ntmps59, Tryz.results59, initT, junks, homeC, hallC, sl, List.toList_toArray, List.cons_append, List.nil_append, List.length_cons, List.length_nil, Nat.reduceAdd, Nat.reduceSub])
  (repeat' (first
 | refine awp_seqK ?_
 | refine kt ?_
 | refine And.intro ?_ ?_
 | ((first | refine awp_stp rfl ?_ | refine awp_draw (by kernel_rfl) (by kernel_rfl) ?_ | refine Imp.le2 ?_ | refine go_split (fun _h => ?_) (fun _h => ?_)) <;> try simp (maxSteps := 4000000) only [go_sem, seval])
 | intro _h
 | refine awp_block ?_
 | refine awp_scope ?_
 | (show heapOK _ _ = true; kernel_rfl)
 | (show heapOK2 _ _ = true; kernel_rfl)
 | (omega)))
theorem in_c (n lo hi : Int) : CallS Tryz.prog 25 [.int .i64 n, .int .i64 lo, .int .i64 hi] (.bool (decide (lo ≤ n ∧ n ≤ hi))) := by
  (refine callS_of_awp (fun w args => Tryz.call25 ..) Tryz.func25 rfl (fun w0 m0 wz => ?_); simp only [Tryz.ntmps25, Tryz.results25, initT, junks, homeC, hallC, sl, List.toList_toArray, List.cons_append, List.nil_append, List.length_cons, List.length_nil, Nat.reduceAdd, Nat.reduceSub])
  (repeat' (first
 | refine awp_seqK ?_
 | refine kt ?_
 | refine And.intro ?_ ?_
 | ((first | refine awp_stp rfl ?_ | refine awp_draw (by kernel_rfl) (by kernel_rfl) ?_ | refine Imp.le2 ?_ | refine go_split (fun _h => ?_) (fun _h => ?_)) <;> try simp (maxSteps := 4000000) only [go_sem, seval])
 | intro _h
 | refine awp_block ?_
 | refine awp_scope ?_
 | (show heapOK _ _ = true; kernel_rfl)
 | (show heapOK2 _ _ = true; kernel_rfl)
 | (omega)))
theorem max2_c (f : Bool) (a b : Int) : CallS Tryz.prog 58 [.psl f 2 [.int .i64 a, .int .i64 b]] (.int .i64 (max a b)) := by
  (refine callS_of_awp (fun w args => Tryz.call58 ..) Tryz.func58 rfl (fun w0 m0 wz => ?_); simp only [Tryz.ntmps58, Tryz.results58, initT, junks, homeC, hallC, sl, List.toList_toArray, List.cons_append, List.nil_append, List.length_cons, List.length_nil, Nat.reduceAdd, Nat.reduceSub])
  (repeat' (first
 | refine awp_seqK ?_
 | refine kt ?_
 | refine And.intro ?_ ?_
 | ((first | refine awp_stp rfl ?_ | refine awp_draw (by kernel_rfl) (by kernel_rfl) ?_ | refine Imp.le2 ?_ | refine go_split (fun _h => ?_) (fun _h => ?_)) <;> try simp (maxSteps := 4000000) only [go_sem, seval])
 | intro _h
 | refine awp_block ?_
 | refine awp_scope ?_
 | (show heapOK _ _ = true; kernel_rfl)
 | (show heapOK2 _ _ = true; kernel_rfl)
 | (omega)))
  (refine awp_rounds 2 ?_; rw [ar_s])
  (repeat' (first
 | refine awp_seqK ?_
 | refine kt ?_
 | refine And.intro ?_ ?_
 | ((first | refine awp_stp rfl ?_ | refine awp_draw (by kernel_rfl) (by kernel_rfl) ?_ | refine Imp.le2 ?_ | refine go_split (fun _h => ?_) (fun _h => ?_)) <;> try simp (maxSteps := 4000000) only [go_sem, seval])
 | intro _h
 | refine awp_block ?_
 | refine awp_scope ?_
 | (show heapOK _ _ = true; kernel_rfl)
 | (show heapOK2 _ _ = true; kernel_rfl)
 | (omega)))
theorem min2_c (f : Bool) (a b : Int) : CallS Tryz.prog 84 [.psl f 2 [.int .i64 a, .int .i64 b]] (.int .i64 (min a b)) := by
  (refine callS_of_awp (fun w args => Tryz.call84 ..) Tryz.func84 rfl (fun w0 m0 wz => ?_); simp only [Tryz.ntmps84, Tryz.results84, initT, junks, homeC, hallC, sl, List.toList_toArray, List.cons_append, List.nil_append, List.length_cons, List.length_nil, Nat.reduceAdd, Nat.reduceSub])
  (repeat' (first
 | refine awp_seqK ?_
 | refine kt ?_
 | refine And.intro ?_ ?_
 | ((first | refine awp_stp rfl ?_ | refine awp_draw (by kernel_rfl) (by kernel_rfl) ?_ | refine Imp.le2 ?_ | refine go_split (fun _h => ?_) (fun _h => ?_)) <;> try simp (maxSteps := 4000000) only [go_sem, seval])
 | intro _h
 | refine awp_block ?_
 | refine awp_scope ?_
 | (show heapOK _ _ = true; kernel_rfl)
 | (show heapOK2 _ _ = true; kernel_rfl)
 | (omega)))
  (refine awp_rounds 2 ?_; rw [ar_s])
  (repeat' (first
 | refine awp_seqK ?_
 | refine kt ?_
 | refine And.intro ?_ ?_
 | ((first | refine awp_stp rfl ?_ | refine awp_draw (by kernel_rfl) (by kernel_rfl) ?_ | refine Imp.le2 ?_ | refine go_split (fun _h => ?_) (fun _h => ?_)) <;> try simp (maxSteps := 4000000) only [go_sem, seval])
 | intro _h
 | refine awp_block ?_
 | refine awp_scope ?_
 | (show heapOK _ _ = true; kernel_rfl)
 | (show heapOK2 _ _ = true; kernel_rfl)
 | (omega)))
theorem latest_c (f : Bool) (a b : Int) : CallS Tryz.prog 86 [.psl f 2 [.int .i64 a, .int .i64 b]] (.int .i64 (max a b)) := by
  (refine callS_of_awp (fun w args => Tryz.call86 ..) Tryz.func86 rfl (fun w0 m0 wz => ?_); simp only [Tryz.ntmps86, Tryz.results86, initT, junks, homeC, hallC, sl, List.toList_toArray, List.cons_append, List.nil_append, List.length_cons, List.length_nil, Nat.reduceAdd, Nat.reduceSub])
  (repeat' (first
 | refine awp_seqK ?_
 | refine kt ?_
 | refine And.intro ?_ ?_
 | ((first | refine awp_stp rfl ?_ | refine awp_draw (by kernel_rfl) (by kernel_rfl) ?_ | refine Imp.le2 ?_ | refine callK_of (max2_c _ _ _) ?_ | refine go_split (fun _h => ?_) (fun _h => ?_)) <;> try simp (maxSteps := 4000000) only [go_sem, seval])
 | intro _h
 | refine awp_block ?_
 | refine awp_scope ?_
 | (show heapOK _ _ = true; kernel_rfl)
 | (show heapOK2 _ _ = true; kernel_rfl)
 | (omega)))
theorem earliest_c (f : Bool) (a b : Int) : CallS Tryz.prog 67 [.psl f 2 [.int .i64 a, .int .i64 b]] (.int .i64 (min a b)) := by
  (refine callS_of_awp (fun w args => Tryz.call67 ..) Tryz.func67 rfl (fun w0 m0 wz => ?_); simp only [Tryz.ntmps67, Tryz.results67, initT, junks, homeC, hallC, sl, List.toList_toArray, List.cons_append, List.nil_append, List.length_cons, List.length_nil, Nat.reduceAdd, Nat.reduceSub])
  (repeat' (first
 | refine awp_seqK ?_
 | refine kt ?_
 | refine And.intro ?_ ?_
 | ((first | refine awp_stp rfl ?_ | refine awp_draw (by kernel_rfl) (by kernel_rfl) ?_ | refine Imp.le2 ?_ | refine callK_of (min2_c _ _ _) ?_ | refine go_split (fun _h => ?_) (fun _h => ?_)) <;> try simp (maxSteps := 4000000) only [go_sem, seval])
 | intro _h
 | refine awp_block ?_
 | refine awp_scope ?_
 | (show heapOK _ _ = true; kernel_rfl)
 | (show heapOK2 _ _ = true; kernel_rfl)
 | (omega)))
theorem upto_c (lo hi m : Int) : CallS Tryz.prog 60 [.agg [.int .i64 lo, .int .i64 hi], .int .i64 m] (.bool (decide (0 ≤ lo ∧ lo ≤ hi ∧ hi ≤ m))) := by
  (refine callS_of_awp (fun w args => Tryz.call60 ..) Tryz.func60 rfl (fun w0 m0 wz => ?_); simp only [Tryz.ntmps60, Tryz.results60, initT, junks, homeC, hallC, sl, List.toList_toArray, List.cons_append, List.nil_append, List.length_cons, List.length_nil, Nat.reduceAdd, Nat.reduceSub])
  (repeat' (first
 | refine awp_seqK ?_
 | refine kt ?_
 | refine And.intro ?_ ?_
 | ((first | refine awp_stp rfl ?_ | refine awp_draw (by kernel_rfl) (by kernel_rfl) ?_ | refine Imp.le2 ?_ | refine go_split (fun _h => ?_) (fun _h => ?_)) <;> try simp (maxSteps := 4000000) only [go_sem, seval])
 | intro _h
 | refine awp_block ?_
 | refine awp_scope ?_
 | (show heapOK _ _ = true; kernel_rfl)
 | (show heapOK2 _ _ = true; kernel_rfl)
 | (omega)))
theorem span_c (lo hi m : Int) : CallS Tryz.prog 26 [.agg [.int .i64 lo, .int .i64 hi], .int .i64 m] (.bool (decide (0 ≤ lo ∧ lo ≤ hi ∧ hi ≤ m))) := by
  (refine callS_of_awp (fun w args => Tryz.call26 ..) Tryz.func26 rfl (fun w0 m0 wz => ?_); simp only [Tryz.ntmps26, Tryz.results26, initT, junks, homeC, hallC, sl, List.toList_toArray, List.cons_append, List.nil_append, List.length_cons, List.length_nil, Nat.reduceAdd, Nat.reduceSub])
  (repeat' (first
 | refine awp_seqK ?_
 | refine kt ?_
 | refine And.intro ?_ ?_
 | ((first | refine awp_stp rfl ?_ | refine awp_draw (by kernel_rfl) (by kernel_rfl) ?_ | refine Imp.le2 ?_ | refine callK_of (in_c _ _ _) ?_ | refine go_split (fun _h => ?_) (fun _h => ?_)) <;> try simp (maxSteps := 4000000) only [go_sem, seval])
 | intro _h
 | refine awp_block ?_
 | refine awp_scope ?_
 | (show heapOK _ _ = true; kernel_rfl)
 | (show heapOK2 _ _ = true; kernel_rfl)
 | (omega)))
def homeB (h : Home) : Bool := decide ((1 ≤ h.people ∧ h.people ≤ 200) ∧ (0 ≤ h.lo ∧ h.lo ≤ h.hi ∧ h.hi ≤ 1000) ∧ (0 ≤ h.walk ∧ h.walk ≤ 1000) ∧ 0 ≤ h.gone ∧ h.gone ≤ 10000)
def hallB (h : Hall) : Bool := decide ((0 ≤ h.room ∧ h.room ≤ 2000) ∧ 0 ≤ h.drive ∧ h.drive ≤ 1000)
theorem homeV_c (h : Home) : CallS Tryz.prog 62 [.agg (homeC h)] (.bool (homeB h)) := by
  unfold homeB
  (refine callS_of_awp (fun w args => Tryz.call62 ..) Tryz.func62 rfl (fun w0 m0 wz => ?_); simp only [Tryz.ntmps62, Tryz.results62, initT, junks, homeC, hallC, sl, List.toList_toArray, List.cons_append, List.nil_append, List.length_cons, List.length_nil, Nat.reduceAdd, Nat.reduceSub])
  (repeat' (first
 | refine awp_seqK ?_
 | refine kt ?_
 | refine And.intro ?_ ?_
 | ((first | refine awp_stp rfl ?_ | refine awp_draw (by kernel_rfl) (by kernel_rfl) ?_ | refine Imp.le2 ?_ | refine callK_of (within_c _ _ _) ?_ | refine callK_of (upto_c _ _ _) ?_ | refine go_split (fun _h => ?_) (fun _h => ?_)) <;> try simp (maxSteps := 4000000) only [go_sem, seval])
 | intro _h
 | refine awp_block ?_
 | refine awp_scope ?_
 | (show heapOK _ _ = true; kernel_rfl)
 | (show heapOK2 _ _ = true; kernel_rfl)
 | (omega)))
theorem hallV_c (h : Hall) : CallS Tryz.prog 64 [.agg (hallC h)] (.bool (hallB h)) := by
  unfold hallB
  (refine callS_of_awp (fun w args => Tryz.call64 ..) Tryz.func64 rfl (fun w0 m0 wz => ?_); simp only [Tryz.ntmps64, Tryz.results64, initT, junks, homeC, hallC, sl, List.toList_toArray, List.cons_append, List.nil_append, List.length_cons, List.length_nil, Nat.reduceAdd, Nat.reduceSub])
  (repeat' (first
 | refine awp_seqK ?_
 | refine kt ?_
 | refine And.intro ?_ ?_
 | ((first | refine awp_stp rfl ?_ | refine awp_draw (by kernel_rfl) (by kernel_rfl) ?_ | refine Imp.le2 ?_ | refine callK_of (within_c _ _ _) ?_ | refine go_split (fun _h => ?_) (fun _h => ?_)) <;> try simp (maxSteps := 4000000) only [go_sem, seval])
 | intro _h
 | refine awp_block ?_
 | refine awp_scope ?_
 | (show heapOK _ _ = true; kernel_rfl)
 | (show heapOK2 _ _ = true; kernel_rfl)
 | (omega)))
end Go.Am
namespace Go.Am
open Go.RowKit Go.Proofs
attribute [local irreducible] AWP CallS Kt goK CallK stepK evOps
set_option maxRecDepth 4000
set_option linter.unusedSimpArgs false
set_option linter.unusedVariables false
set_option maxHeartbeats 400000
def idxOf {α : Type} (q : α → Bool) (l : List α) : Int := match l.findIdx? q with | some i => i | none => -1
theorem idxOf_some {α : Type} {q : α → Bool} {l : List α} {d : α} {i : Nat} (hi : i < l.length) (h : q (l.getD i d) = true) (hj : ∀ j, j < i → q (l.getD j d) = false) : (i : Int) = idxOf q l := by
  have : l.findIdx? q = some i := by
    rw [List.findIdx?_eq_some_iff_getElem]
    refine ⟨hi, by simpa [List.getD_eq_getElem?_getD, hi] using h, fun j hji => ?_⟩
    have := hj j hji
    simpa [List.getD_eq_getElem?_getD, Nat.lt_trans hji hi] using this
  simp [idxOf, this]
theorem idxOf_none {α : Type} {q : α → Bool} {l : List α} {d : α} (hj : ∀ j, j < l.length → q (l.getD j d) = false) : -1 = idxOf q l := by
  have : l.findIdx? q = none := by
    rw [List.findIdx?_eq_none_iff]
    intro x hx
    obtain ⟨j, hjl, rfl⟩ := List.mem_iff_getElem.1 hx
    have := hj j hjl
    simpa [List.getD_eq_getElem?_getD, hjl] using this
  simp [idxOf, this]
theorem idxOf_ge {α : Type} {q : α → Bool} {l : List α} : decide (0 ≤ idxOf q l) = l.any q := by
  unfold idxOf
  cases h : l.findIdx? q with
  | none =>
    rw [List.findIdx?_eq_none_iff] at h
    have : l.any q = false := by rw [List.any_eq_false]; intro x hx; simp [h x hx]
    simp [this]
  | some i =>
    rw [List.findIdx?_eq_some_iff_getElem] at h
    obtain ⟨h1, h2, _⟩ := h
    have : l.any q = true := by rw [List.any_eq_true]; exact ⟨_, List.getElem_mem h1, h2⟩
    simp [this]
theorem idx_int (l : List Int) (g : FuncId) (fv : AV) (q : Int → Bool) (hl : l.length ≤ 1000000) (hq : ∀ i, i < l.length → CallS Tryz.prog g [.int .i64 (l.getD i 0), .pptr [fv] 0] (.bool (q (l.getD i 0)))) :
    CallS Tryz.prog 106 [sl l, .fn (.func g) [] [.pptr [fv] 0]] (.int .i64 (idxOf q l)) := by
  (refine callS_of_awp (fun w args => Tryz.call106 ..) Tryz.func106 rfl (fun w0 m0 wz => ?_); simp only [Tryz.ntmps106, Tryz.results106, initT, junks, homeC, hallC, slH, slL, townC, sl, List.toList_toArray, List.cons_append, List.nil_append, List.length_cons, List.length_nil, Nat.reduceAdd, Nat.reduceSub])
  (repeat' (first
 | refine awp_seqK ?_
 | refine kt ?_
 | refine And.intro ?_ ?_
 | ((first | refine awp_stp rfl ?_ | refine awp_draw (by kernel_rfl) (by kernel_rfl) ?_ | refine Imp.le2 ?_ | refine go_split (fun _h => ?_) (fun _h => ?_)) <;> try simp (maxSteps := 4000000) only [go_sem, seval])
 | intro _h
 | refine awp_block ?_
 | refine awp_scope ?_
 | refine cond_b ?_ ?_
 | (show heapOK _ _ = true; kernel_rfl)
 | (show heapOK2 _ _ = true; kernel_rfl)
 | (omega)))
  refine awp_loopJ (fun i : Nat => i ≤ l.length ∧ ∀ j, j < i → q (l.getD j 0) = false) (fun i => ⟨mkT 19 [(0, sl l), (1, .fn (.func g) [] [.pptr [fv] 0]), (6, sl l), (7, .int .i64 l.length), (8, .int .i64 i)], [], []⟩) (fun i => l.length - i) 0 ⟨Nat.zero_le _, by simp⟩ (.le2 ?_) ?_
  · simp (maxSteps := 4000000) only [go_sem, seval]
  · rintro i ⟨hi, hj⟩
    simp (maxSteps := 4000000) only [go_sem, seval]
    have hqi := hq i
    (repeat' (first
 | refine awp_seqK ?_
 | refine kt ?_
 | refine And.intro ?_ ?_
 | ((first | refine awp_stp rfl ?_ | refine awp_draw (by kernel_rfl) (by kernel_rfl) ?_ | refine Imp.le2 ?_ | refine callK_of (hqi (by omega)) ?_ | refine go_split (fun _h => ?_) (fun _h => ?_)) <;> try simp (maxSteps := 4000000) only [go_sem, seval])
 | intro _h
 | refine awp_block ?_
 | refine awp_scope ?_
 | refine cond_b ?_ ?_
 | (show heapOK _ _ = true; kernel_rfl)
 | (show heapOK2 _ _ = true; kernel_rfl)
 | (omega)))
    · exact idxOf_some (by omega) ‹_› hj
    · refine ⟨i + 1, ⟨by omega, fun j hji => ?_⟩, by omega, .le2 ?_⟩
      · rcases Nat.lt_succ_iff_lt_or_eq.1 hji with h | rfl
        · exact hj j h
        · assumption
      · simp (maxSteps := 4000000) only [go_sem, seval]
        omega
    · exact idxOf_none (d := 0) (fun j hjl => hj j (by omega))
theorem has_int (l : List Int) (g : FuncId) (fv : AV) (q : Int → Bool) (hl : l.length ≤ 1000000) (hq : ∀ i, i < l.length → CallS Tryz.prog g [.int .i64 (l.getD i 0), .pptr [fv] 0] (.bool (q (l.getD i 0)))) :
    CallS Tryz.prog 92 [sl l, .fn (.func g) [] [.pptr [fv] 0]] (.bool (l.any q)) := by
  rw [← idxOf_ge]
  have h := idx_int l g fv q hl hq
  simp only [sl] at h
  (refine callS_of_awp (fun w args => Tryz.call92 ..) Tryz.func92 rfl (fun w0 m0 wz => ?_); simp only [Tryz.ntmps92, Tryz.results92, initT, junks, homeC, hallC, slH, slL, townC, sl, List.toList_toArray, List.cons_append, List.nil_append, List.length_cons, List.length_nil, Nat.reduceAdd, Nat.reduceSub])
  (repeat' (first
 | refine awp_seqK ?_
 | refine kt ?_
 | refine And.intro ?_ ?_
 | ((first | refine awp_stp rfl ?_ | refine awp_draw (by kernel_rfl) (by kernel_rfl) ?_ | refine Imp.le2 ?_ | refine callK_of (h) ?_ | refine go_split (fun _h => ?_) (fun _h => ?_)) <;> try simp (maxSteps := 4000000) only [go_sem, seval])
 | intro _h
 | refine awp_block ?_
 | refine awp_scope ?_
 | refine cond_b ?_ ?_
 | (show heapOK _ _ = true; kernel_rfl)
 | (show heapOK2 _ _ = true; kernel_rfl)
 | (omega)))
theorem all1_int (n : Int) (f : FuncId) (q : Bool) (hq : CallS Tryz.prog f [.int .i64 n] (.bool q)) : CallS Tryz.prog 109 [.int .i64 n, .pptr [.fn (.func f) [] []] 0] (.bool (!q)) := by
  (refine callS_of_awp (fun w args => Tryz.call109 ..) Tryz.func109 rfl (fun w0 m0 wz => ?_); simp only [Tryz.ntmps109, Tryz.results109, initT, junks, homeC, hallC, slH, slL, townC, sl, List.toList_toArray, List.cons_append, List.nil_append, List.length_cons, List.length_nil, Nat.reduceAdd, Nat.reduceSub])
  (repeat' (first
 | refine awp_seqK ?_
 | refine kt ?_
 | refine And.intro ?_ ?_
 | ((first | refine awp_stp rfl ?_ | refine awp_draw (by kernel_rfl) (by kernel_rfl) ?_ | refine Imp.le2 ?_ | refine callK_of (hq) ?_ | refine go_split (fun _h => ?_) (fun _h => ?_)) <;> try simp (maxSteps := 4000000) only [go_sem, seval])
 | intro _h
 | refine awp_block ?_
 | refine awp_scope ?_
 | refine cond_b ?_ ?_
 | (show heapOK _ _ = true; kernel_rfl)
 | (show heapOK2 _ _ = true; kernel_rfl)
 | (omega))) <;> simp [*]
theorem all_int (l : List Int) (f : FuncId) (q : Int → Bool) (hl : l.length ≤ 1000000) (hq : ∀ i, i < l.length → CallS Tryz.prog f [.int .i64 (l.getD i 0)] (.bool (q (l.getD i 0)))) :
    CallS Tryz.prog 102 [sl l, .fn (.func f) [] []] (.bool (l.all q)) := by
  have hany : l.all q = !l.any (fun x => !q x) := by simp [List.all_eq_not_any_not]
  rw [hany]
  have h := has_int l 109 (.fn (.func f) [] []) (fun x => !q x) hl (fun i hi => all1_int _ _ _ (hq i hi))
  simp only [sl] at h
  (refine callS_of_awp (fun w args => Tryz.call102 ..) Tryz.func102 rfl (fun w0 m0 wz => ?_); simp only [Tryz.ntmps102, Tryz.results102, initT, junks, homeC, hallC, slH, slL, townC, sl, List.toList_toArray, List.cons_append, List.nil_append, List.length_cons, List.length_nil, Nat.reduceAdd, Nat.reduceSub])
  ((repeat refine awp_seqK ?_); refine awp_region ?_; simp (maxSteps := 4000000) only [go_sem, seval]; refine kt ?_)
  (refine awp_frz 0 rfl (by simp (maxSteps := 4000000) only [go_sem, seval]) (fun _ => rfl) ?_; simp only [frz, fzl, fz2, fz1, fz0, fzH, fzHs, fzO, fzB, List.map_cons, List.map_nil, if_true, if_false, reduceIte, Nat.reduceEqDiff, Nat.reduceAdd, Nat.succ_ne_self, Nat.zero_ne_one, Nat.one_ne_zero, reduceCtorEq, and_self])
  (repeat' (first
 | refine awp_seqK ?_
 | refine kt ?_
 | refine And.intro ?_ ?_
 | ((first | refine awp_stp rfl ?_ | refine awp_draw (by kernel_rfl) (by kernel_rfl) ?_ | refine Imp.le2 ?_ | refine callK_of (h) ?_ | refine go_split (fun _h => ?_) (fun _h => ?_)) <;> try simp (maxSteps := 4000000) only [go_sem, seval])
 | intro _h
 | refine awp_block ?_
 | refine awp_scope ?_
 | refine cond_b ?_ ?_
 | (show heapOK _ _ = true; kernel_rfl)
 | (show heapOK2 _ _ = true; kernel_rfl)
 | (omega))) <;> simp only [*, Bool.not_true, Bool.not_false]
theorem idx_H (l : List Home) (g : FuncId) (fv : AV) (q : Home → Bool) (hl : l.length ≤ 1000000) (hq : ∀ i, i < l.length → CallS Tryz.prog g [.agg (homeC (l.getD i default)), .pptr [fv] 0] (.bool (q (l.getD i default)))) :
    CallS Tryz.prog 97 [slH l, .fn (.func g) [] [.pptr [fv] 0]] (.int .i64 (idxOf q l)) := by
  (refine callS_of_awp (fun w args => Tryz.call97 ..) Tryz.func97 rfl (fun w0 m0 wz => ?_); simp only [Tryz.ntmps97, Tryz.results97, initT, junks, homeC, hallC, slH, slL, townC, sl, List.toList_toArray, List.cons_append, List.nil_append, List.length_cons, List.length_nil, Nat.reduceAdd, Nat.reduceSub])
  (repeat' (first
 | refine awp_seqK ?_
 | refine kt ?_
 | refine And.intro ?_ ?_
 | ((first | refine awp_stp rfl ?_ | refine awp_draw (by kernel_rfl) (by kernel_rfl) ?_ | refine Imp.le2 ?_ | refine go_split (fun _h => ?_) (fun _h => ?_)) <;> try simp (maxSteps := 4000000) only [go_sem, seval])
 | intro _h
 | refine awp_block ?_
 | refine awp_scope ?_
 | refine cond_b ?_ ?_
 | (show heapOK _ _ = true; kernel_rfl)
 | (show heapOK2 _ _ = true; kernel_rfl)
 | (omega)))
  refine awp_loopJ (fun i : Nat => i ≤ l.length ∧ ∀ j, j < i → q (l.getD j default) = false) (fun i => ⟨mkT 19 [(0, slH l), (1, .fn (.func g) [] [.pptr [fv] 0]), (6, slH l), (7, .int .i64 l.length), (8, .int .i64 i)], [], []⟩) (fun i => l.length - i) 0 ⟨Nat.zero_le _, by simp⟩ (.le2 ?_) ?_
  · simp (maxSteps := 4000000) only [go_sem, seval]
  · rintro i ⟨hi, hj⟩
    simp (maxSteps := 4000000) only [go_sem, seval]
    have hqi := hq i
    simp only [homeC] at hqi
    (repeat' (first
 | refine awp_seqK ?_
 | refine kt ?_
 | refine And.intro ?_ ?_
 | ((first | refine awp_stp rfl ?_ | refine awp_draw (by kernel_rfl) (by kernel_rfl) ?_ | refine Imp.le2 ?_ | refine callK_of (hqi (by omega)) ?_ | refine go_split (fun _h => ?_) (fun _h => ?_)) <;> try simp (maxSteps := 4000000) only [go_sem, seval])
 | intro _h
 | refine awp_block ?_
 | refine awp_scope ?_
 | refine cond_b ?_ ?_
 | (show heapOK _ _ = true; kernel_rfl)
 | (show heapOK2 _ _ = true; kernel_rfl)
 | (omega)))
    · exact idxOf_some (by omega) ‹_› hj
    · refine ⟨i + 1, ⟨by omega, fun j hji => ?_⟩, by omega, .le2 ?_⟩
      · rcases Nat.lt_succ_iff_lt_or_eq.1 hji with h | rfl
        · exact hj j h
        · assumption
      · simp (maxSteps := 4000000) only [go_sem, seval]
        omega
    · exact idxOf_none (d := default) (fun j hjl => hj j (by omega))
theorem has_H (l : List Home) (g : FuncId) (fv : AV) (q : Home → Bool) (hl : l.length ≤ 1000000) (hq : ∀ i, i < l.length → CallS Tryz.prog g [.agg (homeC (l.getD i default)), .pptr [fv] 0] (.bool (q (l.getD i default)))) :
    CallS Tryz.prog 80 [slH l, .fn (.func g) [] [.pptr [fv] 0]] (.bool (l.any q)) := by
  rw [← idxOf_ge]
  have h := idx_H l g fv q hl hq
  simp only [slH] at h
  (refine callS_of_awp (fun w args => Tryz.call80 ..) Tryz.func80 rfl (fun w0 m0 wz => ?_); simp only [Tryz.ntmps80, Tryz.results80, initT, junks, homeC, hallC, slH, slL, townC, sl, List.toList_toArray, List.cons_append, List.nil_append, List.length_cons, List.length_nil, Nat.reduceAdd, Nat.reduceSub])
  (repeat' (first
 | refine awp_seqK ?_
 | refine kt ?_
 | refine And.intro ?_ ?_
 | ((first | refine awp_stp rfl ?_ | refine awp_draw (by kernel_rfl) (by kernel_rfl) ?_ | refine Imp.le2 ?_ | refine callK_of (h) ?_ | refine go_split (fun _h => ?_) (fun _h => ?_)) <;> try simp (maxSteps := 4000000) only [go_sem, seval])
 | intro _h
 | refine awp_block ?_
 | refine awp_scope ?_
 | refine cond_b ?_ ?_
 | (show heapOK _ _ = true; kernel_rfl)
 | (show heapOK2 _ _ = true; kernel_rfl)
 | (omega)))
theorem all1_H (n : Home) (f : FuncId) (q : Bool) (hq : CallS Tryz.prog f [.agg (homeC n)] (.bool q)) : CallS Tryz.prog 81 [.agg (homeC n), .pptr [.fn (.func f) [] []] 0] (.bool (!q)) := by
  simp only [homeC] at hq
  (refine callS_of_awp (fun w args => Tryz.call81 ..) Tryz.func81 rfl (fun w0 m0 wz => ?_); simp only [Tryz.ntmps81, Tryz.results81, initT, junks, homeC, hallC, slH, slL, townC, sl, List.toList_toArray, List.cons_append, List.nil_append, List.length_cons, List.length_nil, Nat.reduceAdd, Nat.reduceSub])
  (repeat' (first
 | refine awp_seqK ?_
 | refine kt ?_
 | refine And.intro ?_ ?_
 | ((first | refine awp_stp rfl ?_ | refine awp_draw (by kernel_rfl) (by kernel_rfl) ?_ | refine Imp.le2 ?_ | refine callK_of (hq) ?_ | refine go_split (fun _h => ?_) (fun _h => ?_)) <;> try simp (maxSteps := 4000000) only [go_sem, seval])
 | intro _h
 | refine awp_block ?_
 | refine awp_scope ?_
 | refine cond_b ?_ ?_
 | (show heapOK _ _ = true; kernel_rfl)
 | (show heapOK2 _ _ = true; kernel_rfl)
 | (omega))) <;> simp [*]
theorem all_H (l : List Home) (f : FuncId) (q : Home → Bool) (hl : l.length ≤ 1000000) (hq : ∀ i, i < l.length → CallS Tryz.prog f [.agg (homeC (l.getD i default))] (.bool (q (l.getD i default)))) :
    CallS Tryz.prog 61 [slH l, .fn (.func f) [] []] (.bool (l.all q)) := by
  have hany : l.all q = !l.any (fun x => !q x) := by simp [List.all_eq_not_any_not]
  rw [hany]
  have h := has_H l 81 (.fn (.func f) [] []) (fun x => !q x) hl (fun i hi => all1_H _ _ _ (hq i hi))
  simp only [slH] at h
  (refine callS_of_awp (fun w args => Tryz.call61 ..) Tryz.func61 rfl (fun w0 m0 wz => ?_); simp only [Tryz.ntmps61, Tryz.results61, initT, junks, homeC, hallC, slH, slL, townC, sl, List.toList_toArray, List.cons_append, List.nil_append, List.length_cons, List.length_nil, Nat.reduceAdd, Nat.reduceSub])
  ((repeat refine awp_seqK ?_); refine awp_region ?_; simp (maxSteps := 4000000) only [go_sem, seval]; refine kt ?_)
  (refine awp_frz 0 rfl (by simp (maxSteps := 4000000) only [go_sem, seval]) (fun _ => rfl) ?_; simp only [frz, fzl, fz2, fz1, fz0, fzH, fzHs, fzO, fzB, List.map_cons, List.map_nil, if_true, if_false, reduceIte, Nat.reduceEqDiff, Nat.reduceAdd, Nat.succ_ne_self, Nat.zero_ne_one, Nat.one_ne_zero, reduceCtorEq, and_self])
  (repeat' (first
 | refine awp_seqK ?_
 | refine kt ?_
 | refine And.intro ?_ ?_
 | ((first | refine awp_stp rfl ?_ | refine awp_draw (by kernel_rfl) (by kernel_rfl) ?_ | refine Imp.le2 ?_ | refine callK_of (h) ?_ | refine go_split (fun _h => ?_) (fun _h => ?_)) <;> try simp (maxSteps := 4000000) only [go_sem, seval])
 | intro _h
 | refine awp_block ?_
 | refine awp_scope ?_
 | refine cond_b ?_ ?_
 | (show heapOK _ _ = true; kernel_rfl)
 | (show heapOK2 _ _ = true; kernel_rfl)
 | (omega))) <;> simp only [*, Bool.not_true, Bool.not_false]
theorem idx_L (l : List Hall) (g : FuncId) (fv : AV) (q : Hall → Bool) (hl : l.length ≤ 1000000) (hq : ∀ i, i < l.length → CallS Tryz.prog g [.agg (hallC (l.getD i default)), .pptr [fv] 0] (.bool (q (l.getD i default)))) :
    CallS Tryz.prog 98 [slL l, .fn (.func g) [] [.pptr [fv] 0]] (.int .i64 (idxOf q l)) := by
  (refine callS_of_awp (fun w args => Tryz.call98 ..) Tryz.func98 rfl (fun w0 m0 wz => ?_); simp only [Tryz.ntmps98, Tryz.results98, initT, junks, homeC, hallC, slH, slL, townC, sl, List.toList_toArray, List.cons_append, List.nil_append, List.length_cons, List.length_nil, Nat.reduceAdd, Nat.reduceSub])
  (repeat' (first
 | refine awp_seqK ?_
 | refine kt ?_
 | refine And.intro ?_ ?_
 | ((first | refine awp_stp rfl ?_ | refine awp_draw (by kernel_rfl) (by kernel_rfl) ?_ | refine Imp.le2 ?_ | refine go_split (fun _h => ?_) (fun _h => ?_)) <;> try simp (maxSteps := 4000000) only [go_sem, seval])
 | intro _h
 | refine awp_block ?_
 | refine awp_scope ?_
 | refine cond_b ?_ ?_
 | (show heapOK _ _ = true; kernel_rfl)
 | (show heapOK2 _ _ = true; kernel_rfl)
 | (omega)))
  refine awp_loopJ (fun i : Nat => i ≤ l.length ∧ ∀ j, j < i → q (l.getD j default) = false) (fun i => ⟨mkT 19 [(0, slL l), (1, .fn (.func g) [] [.pptr [fv] 0]), (6, slL l), (7, .int .i64 l.length), (8, .int .i64 i)], [], []⟩) (fun i => l.length - i) 0 ⟨Nat.zero_le _, by simp⟩ (.le2 ?_) ?_
  · simp (maxSteps := 4000000) only [go_sem, seval]
  · rintro i ⟨hi, hj⟩
    simp (maxSteps := 4000000) only [go_sem, seval]
    have hqi := hq i
    simp only [hallC] at hqi
    (repeat' (first
 | refine awp_seqK ?_
 | refine kt ?_
 | refine And.intro ?_ ?_
 | ((first | refine awp_stp rfl ?_ | refine awp_draw (by kernel_rfl) (by kernel_rfl) ?_ | refine Imp.le2 ?_ | refine callK_of (hqi (by omega)) ?_ | refine go_split (fun _h => ?_) (fun _h => ?_)) <;> try simp (maxSteps := 4000000) only [go_sem, seval])
 | intro _h
 | refine awp_block ?_
 | refine awp_scope ?_
 | refine cond_b ?_ ?_
 | (show heapOK _ _ = true; kernel_rfl)
 | (show heapOK2 _ _ = true; kernel_rfl)
 | (omega)))
    · exact idxOf_some (by omega) ‹_› hj
    · refine ⟨i + 1, ⟨by omega, fun j hji => ?_⟩, by omega, .le2 ?_⟩
      · rcases Nat.lt_succ_iff_lt_or_eq.1 hji with h | rfl
        · exact hj j h
        · assumption
      · simp (maxSteps := 4000000) only [go_sem, seval]
        omega
    · exact idxOf_none (d := default) (fun j hjl => hj j (by omega))
theorem has_L (l : List Hall) (g : FuncId) (fv : AV) (q : Hall → Bool) (hl : l.length ≤ 1000000) (hq : ∀ i, i < l.length → CallS Tryz.prog g [.agg (hallC (l.getD i default)), .pptr [fv] 0] (.bool (q (l.getD i default)))) :
    CallS Tryz.prog 82 [slL l, .fn (.func g) [] [.pptr [fv] 0]] (.bool (l.any q)) := by
  rw [← idxOf_ge]
  have h := idx_L l g fv q hl hq
  simp only [slL] at h
  (refine callS_of_awp (fun w args => Tryz.call82 ..) Tryz.func82 rfl (fun w0 m0 wz => ?_); simp only [Tryz.ntmps82, Tryz.results82, initT, junks, homeC, hallC, slH, slL, townC, sl, List.toList_toArray, List.cons_append, List.nil_append, List.length_cons, List.length_nil, Nat.reduceAdd, Nat.reduceSub])
  (repeat' (first
 | refine awp_seqK ?_
 | refine kt ?_
 | refine And.intro ?_ ?_
 | ((first | refine awp_stp rfl ?_ | refine awp_draw (by kernel_rfl) (by kernel_rfl) ?_ | refine Imp.le2 ?_ | refine callK_of (h) ?_ | refine go_split (fun _h => ?_) (fun _h => ?_)) <;> try simp (maxSteps := 4000000) only [go_sem, seval])
 | intro _h
 | refine awp_block ?_
 | refine awp_scope ?_
 | refine cond_b ?_ ?_
 | (show heapOK _ _ = true; kernel_rfl)
 | (show heapOK2 _ _ = true; kernel_rfl)
 | (omega)))
theorem all1_L (n : Hall) (f : FuncId) (q : Bool) (hq : CallS Tryz.prog f [.agg (hallC n)] (.bool q)) : CallS Tryz.prog 83 [.agg (hallC n), .pptr [.fn (.func f) [] []] 0] (.bool (!q)) := by
  simp only [hallC] at hq
  (refine callS_of_awp (fun w args => Tryz.call83 ..) Tryz.func83 rfl (fun w0 m0 wz => ?_); simp only [Tryz.ntmps83, Tryz.results83, initT, junks, homeC, hallC, slH, slL, townC, sl, List.toList_toArray, List.cons_append, List.nil_append, List.length_cons, List.length_nil, Nat.reduceAdd, Nat.reduceSub])
  (repeat' (first
 | refine awp_seqK ?_
 | refine kt ?_
 | refine And.intro ?_ ?_
 | ((first | refine awp_stp rfl ?_ | refine awp_draw (by kernel_rfl) (by kernel_rfl) ?_ | refine Imp.le2 ?_ | refine callK_of (hq) ?_ | refine go_split (fun _h => ?_) (fun _h => ?_)) <;> try simp (maxSteps := 4000000) only [go_sem, seval])
 | intro _h
 | refine awp_block ?_
 | refine awp_scope ?_
 | refine cond_b ?_ ?_
 | (show heapOK _ _ = true; kernel_rfl)
 | (show heapOK2 _ _ = true; kernel_rfl)
 | (omega))) <;> simp [*]
theorem all_L (l : List Hall) (f : FuncId) (q : Hall → Bool) (hl : l.length ≤ 1000000) (hq : ∀ i, i < l.length → CallS Tryz.prog f [.agg (hallC (l.getD i default))] (.bool (q (l.getD i default)))) :
    CallS Tryz.prog 63 [slL l, .fn (.func f) [] []] (.bool (l.all q)) := by
  have hany : l.all q = !l.any (fun x => !q x) := by simp [List.all_eq_not_any_not]
  rw [hany]
  have h := has_L l 83 (.fn (.func f) [] []) (fun x => !q x) hl (fun i hi => all1_L _ _ _ (hq i hi))
  simp only [slL] at h
  (refine callS_of_awp (fun w args => Tryz.call63 ..) Tryz.func63 rfl (fun w0 m0 wz => ?_); simp only [Tryz.ntmps63, Tryz.results63, initT, junks, homeC, hallC, slH, slL, townC, sl, List.toList_toArray, List.cons_append, List.nil_append, List.length_cons, List.length_nil, Nat.reduceAdd, Nat.reduceSub])
  ((repeat refine awp_seqK ?_); refine awp_region ?_; simp (maxSteps := 4000000) only [go_sem, seval]; refine kt ?_)
  (refine awp_frz 0 rfl (by simp (maxSteps := 4000000) only [go_sem, seval]) (fun _ => rfl) ?_; simp only [frz, fzl, fz2, fz1, fz0, fzH, fzHs, fzO, fzB, List.map_cons, List.map_nil, if_true, if_false, reduceIte, Nat.reduceEqDiff, Nat.reduceAdd, Nat.succ_ne_self, Nat.zero_ne_one, Nat.one_ne_zero, reduceCtorEq, and_self])
  (repeat' (first
 | refine awp_seqK ?_
 | refine kt ?_
 | refine And.intro ?_ ?_
 | ((first | refine awp_stp rfl ?_ | refine awp_draw (by kernel_rfl) (by kernel_rfl) ?_ | refine Imp.le2 ?_ | refine callK_of (h) ?_ | refine go_split (fun _h => ?_) (fun _h => ?_)) <;> try simp (maxSteps := 4000000) only [go_sem, seval])
 | intro _h
 | refine awp_block ?_
 | refine awp_scope ?_
 | refine cond_b ?_ ?_
 | (show heapOK _ _ = true; kernel_rfl)
 | (show heapOK2 _ _ = true; kernel_rfl)
 | (omega))) <;> simp only [*, Bool.not_true, Bool.not_false]
def faultT (t : Town) : Int :=
  if 8 < t.homes.length ∨ 3 < t.halls.length then 3
  else if (t.homes.length = 0 ∨ ¬ (1 ≤ t.seats ∧ t.seats ≤ 200)) ∨ ¬ (0 ≤ t.clo ∧ t.clo ≤ t.chi ∧ t.chi ≤ 60) ∨ t.homes.all homeB = false ∨ t.halls.all hallB = false then 1 else 0
def townOK (t : Town) : Prop := t.homes.length ≤ 1000000 ∧ t.halls.length ≤ 1000000
theorem check_c (t : Town) (ht : townOK t) : CallS Tryz.prog 39 [.agg (townC t)] (.int .i64 (faultT t)) := by
  have h1 := all_H t.homes 62 homeB ht.1 (fun i hi => homeV_c _)
  have h2 := all_L t.halls 64 hallB ht.2 (fun i hi => hallV_c _)
  obtain ⟨hl1, hl2⟩ := ht
  simp only [slH, slL] at h1 h2
  unfold faultT
  simp only [townC, slH, slL]
  (refine callS_of_awp (fun w args => Tryz.call39 ..) Tryz.func39 rfl (fun w0 m0 wz => ?_); simp only [Tryz.ntmps39, Tryz.results39, initT, junks, homeC, hallC, slH, slL, townC, sl, List.toList_toArray, List.cons_append, List.nil_append, List.length_cons, List.length_nil, Nat.reduceAdd, Nat.reduceSub])
  (repeat' (first
 | refine awp_seqK ?_
 | refine kt ?_
 | refine And.intro ?_ ?_
 | ((first | refine awp_stp rfl ?_ | refine awp_draw (by kernel_rfl) (by kernel_rfl) ?_ | refine Imp.le2 ?_ | refine callK_of (within_c _ _ _) ?_ | refine callK_of (upto_c _ _ _) ?_ | refine callK_of (h1) ?_ | refine callK_of (h2) ?_ | refine go_split (fun _h => ?_) (fun _h => ?_)) <;> try simp (maxSteps := 4000000) only [go_sem, seval])
 | intro _h
 | refine awp_block ?_
 | refine awp_scope ?_
 | refine cond_b ?_ ?_
 | (show heapOK _ _ = true; kernel_rfl)
 | (show heapOK2 _ _ = true; kernel_rfl)
 | (omega)))
  all_goals first
 | (rw [if_pos (by omega)])
 | (rw [if_neg (by omega), if_pos (by first | (left; omega) | (right; left; omega) | (right; right; left; assumption) | (right; right; right; assumption))])
 | (rw [if_neg (by omega), if_neg (by rintro (h | h | h | h) <;> first | omega | (simp only [*, reduceCtorEq] at h))])
end Go.Am
namespace Go.Am
open Go.RowKit Go.Proofs
attribute [local irreducible] AWP CallS Kt goK CallK stepK evOps SemF SemY Imp
set_option maxRecDepth 4000
set_option linter.unusedSimpArgs false
set_option linter.unusedVariables false
set_option maxHeartbeats 800000
def andn (a b : Int) : Int := IntKind.u8.wrap (BitVec.ofInt IntKind.u8.bits a &&& ~~~ BitVec.ofInt IntKind.u8.bits b).toNat
theorem bin_andn {P : Program} {t : TypeId} {a b : Int} {K : AV → Prop} : binK P .andNot t (.int .u8 a) (.int .u8 b) K = K (.int .u8 (andn a b)) := by simp [binK, binInt, bits, andn]
attribute [go_sem] bin_andn
theorem ld_H45 {l : List Home} {i : Nat} {K : AV → Prop} : loadK Tryz.prog 68 (recs homeC l) (i * 6) K = (i < l.length ∧ K (.agg (homeC (l.getD i default)))) := ld_recs tagg68 tsz68 (fun _ => rfl) (by omega)
theorem ld_L56 {l : List Hall} {i : Nat} {K : AV → Prop} : loadK Tryz.prog 93 (recs hallC l) (i * 3) K = (i < l.length ∧ K (.agg (hallC (l.getD i default)))) := ld_recs tagg93 tsz93 (fun _ => rfl) (by omega)
attribute [go_sem ↓] ld_H45 ld_L56
structure HomeOK (h : Home) : Prop where
  people : 1 ≤ h.people ∧ h.people ≤ 200
  prep : 0 ≤ h.lo ∧ h.lo ≤ h.hi ∧ h.hi ≤ 1000
  walk : 0 ≤ h.walk ∧ h.walk ≤ 1000
  gone : 0 ≤ h.gone ∧ h.gone ≤ 10000
structure HallOK (l : Hall) : Prop where
  room : 0 ≤ l.room ∧ l.room ≤ 2000
  drive : 0 ≤ l.drive ∧ l.drive ≤ 1000
theorem homeB_ok {h : Home} (e : homeB h = true) : HomeOK h := by
  have := of_decide_eq_true e
  exact ⟨this.1, this.2.1, this.2.2.1, this.2.2.2⟩
theorem hallB_ok {h : Hall} (e : hallB h = true) : HallOK h := by
  have := of_decide_eq_true e
  exact ⟨this.1, this.2⟩
structure TownOK (t : Town) : Prop where
  homes : 1 ≤ t.homes.length ∧ t.homes.length ≤ 8
  halls : t.halls.length ≤ 3
  seats : 1 ≤ t.seats ∧ t.seats ≤ 200
  call : 0 ≤ t.clo ∧ t.clo ≤ t.chi ∧ t.chi ≤ 60
  home : ∀ i, i < t.homes.length → HomeOK (t.homes.getD i default)
  hall : ∀ i, i < t.halls.length → HallOK (t.halls.getD i default)
theorem faultT_zero {t : Town} (h : faultT t = 0) : TownOK t := by
  unfold faultT at h
  split at h
  · omega
  · split at h
    · omega
    · rename_i h1 h2
      simp only [not_or, Bool.not_eq_false, Classical.not_not] at h2
      obtain ⟨⟨a, b⟩, c, d, e⟩ := h2
      refine ⟨by omega, by omega, b, c, fun i hi => homeB_ok ?_, fun i hi => hallB_ok ?_⟩
      · rw [List.all_eq_true] at d
        rw [List.getD_eq_getElem?_getD, List.getElem?_eq_getElem hi]
        exact d _ (List.getElem_mem hi)
      · rw [List.all_eq_true] at e
        rw [List.getD_eq_getElem?_getD, List.getElem?_eq_getElem hi]
        exact e _ (List.getElem_mem hi)
theorem TownOK.ok {t : Town} (h : TownOK t) : townOK t := ⟨by have := h.homes; omega, by have := h.halls; omega⟩
def worstN (t : Town) (h : Home) : Int := t.homes.length * t.chi + h.hi + h.walk
def worstL (t : Town) : List Int := t.homes.map (worstN t)
theorem worstL_length {t : Town} : (worstL t).length = t.homes.length := by simp [worstL]
theorem take_snoc {α : Type} {l : List α} {d : α} {k : Nat} (h : k < l.length) : l.take (k + 1) = l.take k ++ [l.getD k d] := by
  rw [List.take_succ_eq_append_getElem h]; simp [List.getD_eq_getElem?_getD, h]
theorem mul_bd {a b A B : Int} (h1 : 0 ≤ a) (h2 : a ≤ A) (h3 : 0 ≤ b) (h4 : b ≤ B) : 0 ≤ a * b ∧ a * b ≤ A * B :=
  ⟨Int.mul_nonneg h1 h3, Int.mul_le_mul h2 h4 h3 (by omega)⟩
theorem worst_c (t : Town) (ht : TownOK t) : CallS Tryz.prog 65 [.agg (townC t)] (sl (worstL t)) := by
  obtain ⟨hh1, hh2⟩ := ht.homes
  have hc := ht.call
  have hm := mul_bd (a := t.homes.length) (A := 8) (b := t.chi) (B := 60) (by omega) (by omega) (by omega) (by omega)
  (refine callS_of_awp (fun w args => Tryz.call65 ..) Tryz.func65 rfl (fun w0 m0 wz => ?_); simp only [Tryz.ntmps65, Tryz.results65, initT, junks, homeC, hallC, slH, slL, townC, sl, List.toList_toArray, List.cons_append, List.nil_append, List.length_cons, List.length_nil, Nat.reduceAdd, Nat.reduceSub])
  (repeat' (first
 | refine awp_seqK ?_
 | refine kt ?_
 | refine And.intro ?_ ?_
 | ((first | refine awp_stp rfl ?_ | refine awp_draw (by kernel_rfl) (by kernel_rfl) ?_ | refine Imp.le2 ?_ | refine go_split (fun _h => ?_) (fun _h => ?_)) <;> try simp (maxSteps := 4000000) only [go_sem, seval])
 | intro _h
 | refine awp_block ?_
 | refine awp_scope ?_
 | refine cond_b ?_ ?_
 | (show heapOK _ _ = true; kernel_rfl)
 | (show heapOK2 _ _ = true; kernel_rfl)
 | (omega)))
  (refine awp_adT 2 3 1 rfl ?_; simp only [adT, lset, hset, List.length_cons, List.length_nil, Nat.reduceAdd])
  refine awp_loopN t.homes.length (fun k => ⟨mkT 31 [(1, .ptr 0 0 0), (2, .osl 1 k 0 k), (6, slH t.homes), (7, .int .i64 t.homes.length), (8, .int .i64 k)], [some (.cells 76 1 0 (townC t)), some (.cells 3 1 k (ints ((worstL t).take k)))], []⟩) (.le2 ?_) ?_
  · simp only [townC, slH, slL]; simp (maxSteps := 4000000) only [go_sem, seval]
    rfl
  · intro k hk
    have hlt : ((worstL t).take k).length = k := by simp [worstL_length]; omega
    have hho := ht.home k
    have hsn : k < t.homes.length → ints ((worstL t).take k) ++ [.int .i64 (t.homes.length * t.chi + (t.homes.getD k default).hi + (t.homes.getD k default).walk)] = ints ((worstL t).take (k + 1)) := fun h => by
      rw [take_snoc (d := 0) (by rw [worstL_length]; exact h), ints_append]
      simp [worstL, ints, worstN, List.getD_eq_getElem?_getD, h]
    simp only [townC, slH, slL]; simp (maxSteps := 4000000) only [go_sem, seval, hlt]
    by_cases hk1 : k < t.homes.length
    · obtain ⟨_, hp, hw, _⟩ := hho hk1
      have hs1 := hsn hk1
      (repeat' (first
 | ((omega))
 | refine awp_seqK ?_
 | refine kt ?_
 | refine And.intro ?_ ?_
 | ((first | refine awp_stp rfl ?_ | refine awp_draw (by kernel_rfl) (by kernel_rfl) ?_ | refine Imp.le2 ?_ | refine go_split (fun _h => ?_) (fun _h => ?_)) <;> try simp (maxSteps := 4000000) only [go_sem, seval, hlt, hs1])
 | intro _h
 | refine awp_block ?_
 | refine awp_scope ?_
 | refine cond_b ?_ ?_
 | (show heapOK _ _ = true; kernel_rfl)
 | (show heapOK2 _ _ = true; kernel_rfl)
 | (omega)))
    · have : k = t.homes.length := by omega
      subst this
      (repeat' (first
 | ((omega))
 | refine awp_seqK ?_
 | refine kt ?_
 | refine And.intro ?_ ?_
 | ((first | refine awp_stp rfl ?_ | refine awp_draw (by kernel_rfl) (by kernel_rfl) ?_ | refine Imp.le2 ?_ | refine go_split (fun _h => ?_) (fun _h => ?_)) <;> try simp (maxSteps := 4000000) only [go_sem, seval, hlt])
 | intro _h
 | refine awp_block ?_
 | refine awp_scope ?_
 | refine cond_b ?_ ?_
 | (show heapOK _ _ = true; kernel_rfl)
 | (show heapOK2 _ _ = true; kernel_rfl)
 | (omega)))
      all_goals simp [worstL_length, List.take_of_length_le]
theorem taken_c (h : Home) (l : Hall) : CallS Tryz.prog 104 [.agg (homeC h), .agg (hallC l)] (.bool (decide (andn h.pets l.pets = 0))) := by
  (refine callS_of_awp (fun w args => Tryz.call104 ..) Tryz.func104 rfl (fun w0 m0 wz => ?_); simp only [Tryz.ntmps104, Tryz.results104, initT, junks, homeC, hallC, slH, slL, townC, sl, List.toList_toArray, List.cons_append, List.nil_append, List.length_cons, List.length_nil, Nat.reduceAdd, Nat.reduceSub])
  (repeat' (first
 | refine awp_seqK ?_
 | refine kt ?_
 | refine And.intro ?_ ?_
 | ((first | refine awp_stp rfl ?_ | refine awp_draw (by kernel_rfl) (by kernel_rfl) ?_ | refine Imp.le2 ?_ | refine go_split (fun _h => ?_) (fun _h => ?_)) <;> try simp (maxSteps := 4000000) only [go_sem, seval])
 | intro _h
 | refine awp_block ?_
 | refine awp_scope ?_
 | refine cond_b ?_ ?_
 | (show heapOK _ _ = true; kernel_rfl)
 | (show heapOK2 _ _ = true; kernel_rfl)
 | (omega)))
def fitB (h : Home) (l : Hall) : Prop := andn h.pets l.pets = 0 ∧ h.people ≤ l.room
instance (h : Home) (l : Hall) : Decidable (fitB h l) := inferInstanceAs (Decidable (_ ∧ _))
def byN (h : Home) (ls : List Hall) : Nat → Int
  | 0 => -1
  | k + 1 => if fitB h (ls.getD k default) then max (byN h ls k) (h.gone - (ls.getD k default).drive - h.hi - h.walk) else byN h ls k
def byT (t : Town) (h : Home) : Int := byN h t.halls t.halls.length
theorem byN_bd {h : Home} {ls : List Hall} (hh : HomeOK h) : ∀ k, (∀ i, i < k → HallOK (ls.getD i default)) → -1 ≤ byN h ls k ∧ byN h ls k ≤ 10000
  | 0, _ => by simp [byN]
  | k + 1, hl => by
    have := byN_bd (ls := ls) hh k (fun i hi => hl i (by omega))
    have h1 := hh.prep
    have h2 := hh.walk
    have h3 := hh.gone
    have h4 := (hl k (by omega)).drive
    simp only [byN]
    split <;> omega
end Go.Am
namespace Go.Am
open Go.RowKit Go.Proofs
attribute [local irreducible] AWP CallS Kt goK CallK stepK evOps SemF SemY Imp
set_option maxRecDepth 4000
set_option linter.unusedSimpArgs false
set_option linter.unusedVariables false
set_option maxHeartbeats 800000
def thinB (t : Town) : Bool := decide (t.homes.length ≤ 12 ∧ t.halls.length ≤ 6)
theorem thin_c (t : Town) : CallS Tryz.prog 4 [.agg (townC t)] (.bool (thinB t)) := by
  unfold thinB
  (refine callS_of_awp (fun w args => Tryz.call4 ..) Tryz.func4 rfl (fun w0 m0 wz => ?_); simp only [Tryz.ntmps4, Tryz.results4, initT, junks, homeC, hallC, slH, slL, townC, sl, List.toList_toArray, List.cons_append, List.nil_append, List.length_cons, List.length_nil, Nat.reduceAdd, Nat.reduceSub])
  (repeat' (first
 | refine awp_seqK ?_
 | refine kt ?_
 | refine And.intro ?_ ?_
 | ((first | refine awp_stp rfl ?_ | refine awp_draw (by kernel_rfl) (by kernel_rfl) ?_ | refine Imp.le2 ?_ | refine go_split (fun _h => ?_) (fun _h => ?_)) <;> try simp (maxSteps := 4000000) only [go_sem, seval])
 | intro _h
 | refine awp_block ?_
 | refine awp_scope ?_
 | refine cond_b ?_ ?_
 | (show heapOK _ _ = true; kernel_rfl)
 | (show heapOK2 _ _ = true; kernel_rfl)
 | (omega)))
  all_goals (simp only [eq_comm, decide_eq_true_eq, decide_eq_false_iff_not]; omega)
theorem to_c (lo hi : Int) : CallS Tryz.prog 44 [.agg [.int .i64 lo, .int .i64 hi]] (.agg [.int .i64 lo, .int .i64 hi]) := by
  (refine callS_of_awp (fun w args => Tryz.call44 ..) Tryz.func44 rfl (fun w0 m0 wz => ?_); simp only [Tryz.ntmps44, Tryz.results44, initT, junks, homeC, hallC, slH, slL, townC, sl, List.toList_toArray, List.cons_append, List.nil_append, List.length_cons, List.length_nil, Nat.reduceAdd, Nat.reduceSub])
  (repeat' (first
 | refine awp_seqK ?_
 | refine kt ?_
 | refine And.intro ?_ ?_
 | ((first | refine awp_stp rfl ?_ | refine awp_draw (by kernel_rfl) (by kernel_rfl) ?_ | refine Imp.le2 ?_ | refine go_split (fun _h => ?_) (fun _h => ?_)) <;> try simp (maxSteps := 4000000) only [go_sem, seval])
 | intro _h
 | refine awp_block ?_
 | refine awp_scope ?_
 | refine cond_b ?_ ?_
 | (show heapOK _ _ = true; kernel_rfl)
 | (show heapOK2 _ _ = true; kernel_rfl)
 | (omega)))
end Go.Am
namespace Go.Am
open Go.RowKit Go.Proofs
attribute [local irreducible] AWP CallS Kt goK CallK stepK evOps SemF SemY Imp
set_option maxRecDepth 4000
set_option linter.unusedSimpArgs false
set_option linter.unusedVariables false
set_option maxHeartbeats 1600000
theorem getD_mem {α : Type} {l : List α} {d : α} {i : Nat} (h : i < l.length) : l.getD i d ∈ l := by
  rw [List.getD_eq_getElem?_getD, List.getElem?_eq_getElem h]; exact List.getElem_mem h
theorem mem_getD {α : Type} {l : List α} {d : α} {x : α} (h : x ∈ l) : ∃ i, i < l.length ∧ l.getD i d = x := by
  obtain ⟨i, hi, rfl⟩ := List.mem_iff_getElem.1 h
  exact ⟨i, hi, by simp [List.getD_eq_getElem?_getD, hi]⟩
theorem fault_c (t : Town) (hb : townOK t) : CallS Tryz.prog 5 [.agg (townC t)] (.int .i64 (faultT t)) := by
  obtain ⟨hb1, hb2⟩ := hb
  have r3 : (8 < t.homes.length ∨ 3 < t.halls.length) → 3 = faultT t := fun h => by unfold faultT; rw [if_pos h]
  have r1 : ¬ (8 < t.homes.length ∨ 3 < t.halls.length) → ((t.homes.length = 0 ∨ ¬ (1 ≤ t.seats ∧ t.seats ≤ 200)) ∨ ¬ (0 ≤ t.clo ∧ t.clo ≤ t.chi ∧ t.chi ≤ 60)) → 1 = faultT t := fun h h' => by
    unfold faultT; rw [if_neg h, if_pos (by rcases h' with h' | h'; exact .inl h'; exact .inr (.inl h'))]
  have rH : ¬ (8 < t.homes.length ∨ 3 < t.halls.length) → ∀ j, j < t.homes.length → homeB (t.homes.getD j default) = false → 1 = faultT t := fun h j hj h' => by
    unfold faultT; rw [if_neg h, if_pos (.inr (.inr (.inl (by rw [List.all_eq_false]; exact ⟨t.homes.getD j default, getD_mem hj, by rw [h']; simp⟩))))]
  have rL : ¬ (8 < t.homes.length ∨ 3 < t.halls.length) → ∀ j, j < t.halls.length → hallB (t.halls.getD j default) = false → 1 = faultT t := fun h j hj h' => by
    unfold faultT; rw [if_neg h, if_pos (.inr (.inr (.inr (by rw [List.all_eq_false]; exact ⟨t.halls.getD j default, getD_mem hj, by rw [h']; simp⟩))))]
  have r0 : ¬ (8 < t.homes.length ∨ 3 < t.halls.length) → ¬ ((t.homes.length = 0 ∨ ¬ (1 ≤ t.seats ∧ t.seats ≤ 200)) ∨ ¬ (0 ≤ t.clo ∧ t.clo ≤ t.chi ∧ t.chi ≤ 60)) → (∀ j, j < t.homes.length → homeB (t.homes.getD j default) = true) → (∀ j, j < t.halls.length → hallB (t.halls.getD j default) = true) → 0 = faultT t := fun h h' h1 h2 => by
    have e1 : t.homes.all homeB = true := by
      rw [List.all_eq_true]; intro x hx; obtain ⟨i, hi, rfl⟩ := mem_getD (d := default) hx; exact h1 i hi
    have e2 : t.halls.all hallB = true := by
      rw [List.all_eq_true]; intro x hx; obtain ⟨i, hi, rfl⟩ := mem_getD (d := default) hx; exact h2 i hi
    unfold faultT; rw [if_neg h, if_neg (by rw [e1, e2]; simp only [reduceCtorEq, or_false]; exact h')]
  generalize faultT t = r at *
  (refine callS_of_awp (fun w args => Tryz.call5 ..) Tryz.func5 rfl (fun w0 m0 wz => ?_); simp only [Tryz.ntmps5, Tryz.results5, initT, junks, homeC, hallC, slH, slL, townC, sl, List.toList_toArray, List.cons_append, List.nil_append, List.length_cons, List.length_nil, Nat.reduceAdd, Nat.reduceSub])
  (repeat' (first
 | refine awp_seqK ?_
 | refine kt ?_
 | refine And.intro ?_ ?_
 | ((first | refine awp_stp rfl ?_ | refine awp_draw (by kernel_rfl) (by kernel_rfl) ?_ | refine Imp.le2 ?_ | refine callK_of (in_c _ _ _) ?_ | refine callK_of (span_c _ _ _) ?_ | refine go_split (fun _h => ?_) (fun _h => ?_)) <;> try simp (maxSteps := 4000000) only [go_sem, seval])
 | intro _h
 | refine awp_block ?_
 | refine awp_scope ?_
 | refine cond_b ?_ ?_
 | (show heapOK _ _ = true; kernel_rfl)
 | (show heapOK2 _ _ = true; kernel_rfl)
 | (omega)))
  all_goals first
 | (exact r3 (by omega))
 | (exact r1 (by omega) (by omega))
 | (exact (r3 (by omega)).symm)
 | (exact (r1 (by omega) (by omega)).symm)
    | skip
  refine awp_loopJ (fun i : Nat => i ≤ t.homes.length ∧ ∀ j, j < i → homeB (t.homes.getD j default) = true) (fun i => ⟨mkT 91 [(1, .ptr 0 0 0), (3, .int .i64 i)], [some (.cells 27 1 0 (townC t))], []⟩) (fun i => t.homes.length - i) 0 ⟨Nat.zero_le _, by simp⟩ (.le2 ?_) ?_
  · simp only [townC, slH, slL]; simp (maxSteps := 4000000) only [go_sem, seval]
  · rintro i ⟨hi, hj⟩
    have r3' := r3; clear r3
    simp only [townC, slH, slL]; simp (maxSteps := 4000000) only [go_sem, seval]
    (repeat' (first
 | refine awp_seqK ?_
 | refine kt ?_
 | refine And.intro ?_ ?_
 | ((first | refine awp_stp rfl ?_ | refine awp_draw (by kernel_rfl) (by kernel_rfl) ?_ | refine Imp.le2 ?_ | refine callK_of (in_c _ _ _) ?_ | refine callK_of (span_c _ _ _) ?_ | refine go_split (fun _h => ?_) (fun _h => ?_)) <;> try simp (maxSteps := 4000000) only [go_sem, seval])
 | intro _h
 | refine awp_block ?_
 | refine awp_scope ?_
 | refine cond_b ?_ ?_
 | (show heapOK _ _ = true; kernel_rfl)
 | (show heapOK2 _ _ = true; kernel_rfl)
 | (omega)))
    all_goals first
      | (refine ⟨i + 1, ⟨by omega, fun j hji => ?_⟩, by omega, .le2 ?_⟩
         · rcases Nat.lt_succ_iff_lt_or_eq.1 hji with h | rfl
           · exact hj j h
           · exact decide_eq_true ⟨‹_›, ‹_›, ‹_›, ‹_›⟩
         · simp (maxSteps := 4000000) only [go_sem, seval] <;> omega)
      | (exact rH (by omega) i (by omega) (decide_eq_false (by omega)))
      | (exact (rH (by omega) i (by omega) (decide_eq_false (by omega))).symm)
      | skip
    have hi' : i = t.homes.length := by omega
    subst hi'
    refine awp_loopJ (fun i : Nat => i ≤ t.halls.length ∧ ∀ j, j < i → hallB (t.halls.getD j default) = true) (fun i => ⟨mkT 91 [(1, .ptr 0 0 0), (5, .int .i64 i)], [some (.cells 27 1 0 (townC t))], []⟩) (fun i => t.halls.length - i) 0 ⟨Nat.zero_le _, by simp⟩ (.le2 ?_) ?_
    · simp only [townC, slH, slL]; simp (maxSteps := 4000000) only [go_sem, seval]
    · rintro k ⟨hk, hkj⟩
      simp only [townC, slH, slL]; simp (maxSteps := 4000000) only [go_sem, seval]
      (repeat' (first
 | refine awp_seqK ?_
 | refine kt ?_
 | refine And.intro ?_ ?_
 | ((first | refine awp_stp rfl ?_ | refine awp_draw (by kernel_rfl) (by kernel_rfl) ?_ | refine Imp.le2 ?_ | refine callK_of (in_c _ _ _) ?_ | refine go_split (fun _h => ?_) (fun _h => ?_)) <;> try simp (maxSteps := 4000000) only [go_sem, seval])
 | intro _h
 | refine awp_block ?_
 | refine awp_scope ?_
 | refine cond_b ?_ ?_
 | (show heapOK _ _ = true; kernel_rfl)
 | (show heapOK2 _ _ = true; kernel_rfl)
 | (omega)))
      all_goals first
        | (refine ⟨k + 1, ⟨by omega, fun j hji => ?_⟩, by omega, .le2 ?_⟩
           · rcases Nat.lt_succ_iff_lt_or_eq.1 hji with h | rfl
             · exact hkj j h
             · exact decide_eq_true ⟨‹_›, ‹_›⟩
           · simp (maxSteps := 4000000) only [go_sem, seval] <;> omega)
        | (exact rL (by omega) k (by omega) (decide_eq_false (by omega)))
        | (exact (rL (by omega) k (by omega) (decide_eq_false (by omega))).symm)
        | (exact r0 (by omega) (by omega) (fun j h => hj j (by omega)) (fun j h => hkj j (by omega)))
        | (exact (r0 (by omega) (by omega) (fun j h => hj j (by omega)) (fun j h => hkj j (by omega))).symm)
        | trace_state
theorem recs_take {α : Type} {enc : α → List AV} {l : List α} {d : α} {k : Nat} (h : k < l.length) : recs enc (l.take k) ++ enc (l.getD k d) = recs enc (l.take (k + 1)) := by
  rw [take_snoc (d := d) h, recs_snoc]
theorem Town_c (t : Town) (hb : townOK t) : CallS Tryz.prog 19 [.agg (townC t)] (.agg (townC t)) := by
  obtain ⟨hb1, hb2⟩ := hb
  (refine callS_of_awp (fun w args => Tryz.call19 ..) Tryz.func19 rfl (fun w0 m0 wz => ?_); simp only [Tryz.ntmps19, Tryz.results19, initT, junks, homeC, hallC, slH, slL, townC, sl, List.toList_toArray, List.cons_append, List.nil_append, List.length_cons, List.length_nil, Nat.reduceAdd, Nat.reduceSub])
  (repeat' (first
 | refine awp_seqK ?_
 | refine kt ?_
 | refine And.intro ?_ ?_
 | ((first | refine awp_stp rfl ?_ | refine awp_draw (by kernel_rfl) (by kernel_rfl) ?_ | refine Imp.le2 ?_ | refine callK_of (to_c _ _) ?_ | refine go_split (fun _h => ?_) (fun _h => ?_)) <;> try simp (maxSteps := 4000000) only [go_sem, seval])
 | intro _h
 | refine awp_block ?_
 | refine awp_scope ?_
 | refine cond_b ?_ ?_
 | (show heapOK _ _ = true; kernel_rfl)
 | (show heapOK2 _ _ = true; kernel_rfl)
 | (omega)))
  refine awp_adH 2 0 129 6 rfl rfl ?_
  simp only [adH, hget, hset, lset, List.length_cons, List.length_nil, Nat.reduceAdd]
  refine awp_adH 2 1 130 3 rfl rfl ?_
  simp only [adH, hget, hset, lset, List.length_cons, List.length_nil, Nat.reduceAdd]
  refine awp_loopN t.homes.length (fun k => ⟨mkT 68 [(1, .ptr 0 0 0), (2, .ptr 1 0 0), (3, .ptr 2 0 0), (4, .int .i64 k)], [some (.cells 27 1 0 (townC t)), some (.cells 76 1 0 [.nils, .nils, .int .i64 0, .int .i64 0, .int .i64 0]), some (.cells 76 1 0 [.osl 3 k 0 k, .osl 4 0 0 0, .int .i64 t.seats, .int .i64 t.clo, .int .i64 t.chi]), some (.cells 129 6 k (recs homeC (t.homes.take k))), some (.cells 130 3 0 [])], []⟩) (.le2 ?_) ?_
  · simp only [townC, slH, slL]; simp (maxSteps := 4000000) only [go_sem, seval]
    rfl
  · intro k hk
    rcases Nat.lt_or_eq_of_le hk with hk1 | hk1
    · have hlt : (t.homes.take k).length = k := by simp; omega
      have hsn := recs_take (enc := homeC) (d := default) hk1
      simp only [homeC] at hsn
      simp only [townC, slH, slL]; simp (maxSteps := 4000000) only [go_sem, seval]
      (repeat' (first
 | ((omega))
 | refine awp_seqK ?_
 | refine kt ?_
 | refine And.intro ?_ ?_
 | ((first | refine awp_stp rfl ?_ | refine awp_draw (by kernel_rfl) (by kernel_rfl) ?_ | refine Imp.le2 ?_ | refine callK_of (to_c _ _) ?_ | refine go_split (fun _h => ?_) (fun _h => ?_)) <;> try simp (maxSteps := 4000000) only [go_sem, seval, hlt, hsn])
 | intro _h
 | refine awp_block ?_
 | refine awp_scope ?_
 | refine cond_b ?_ ?_
 | (show heapOK _ _ = true; kernel_rfl)
 | (show heapOK2 _ _ = true; kernel_rfl)
 | (omega)))
      all_goals trace_state
    · subst hk1
      have hlt : (t.homes.take t.homes.length) = t.homes := by simp
      simp only [townC, slH, slL]; simp (maxSteps := 4000000) only [go_sem, seval, hlt]
      (repeat' (first
 | ((exfalso; omega))
 | refine awp_seqK ?_
 | refine kt ?_
 | refine And.intro ?_ ?_
 | ((first | refine awp_stp rfl ?_ | refine awp_draw (by kernel_rfl) (by kernel_rfl) ?_ | refine Imp.le2 ?_ | refine go_split (fun _h => ?_) (fun _h => ?_)) <;> try simp (maxSteps := 4000000) only [go_sem, seval, hlt])
 | intro _h
 | refine awp_block ?_
 | refine awp_scope ?_
 | refine cond_b ?_ ?_
 | (show heapOK _ _ = true; kernel_rfl)
 | (show heapOK2 _ _ = true; kernel_rfl)
 | (omega)))
      refine awp_loopN t.halls.length (fun k => ⟨mkT 68 [(1, .ptr 0 0 0), (2, .ptr 1 0 0), (3, .ptr 2 0 0), (6, .int .i64 k)], [some (.cells 27 1 0 (townC t)), some (.cells 76 1 0 [.nils, .nils, .int .i64 0, .int .i64 0, .int .i64 0]), some (.cells 76 1 0 [.osl 3 t.homes.length 0 t.homes.length, .osl 4 k 0 k, .int .i64 t.seats, .int .i64 t.clo, .int .i64 t.chi]), some (.cells 129 6 t.homes.length (recs homeC t.homes)), some (.cells 130 3 k (recs hallC (t.halls.take k)))], []⟩) (.le2 ?_) ?_
      · simp only [townC, slH, slL]; simp (maxSteps := 4000000) only [go_sem, seval]
        rfl
      · intro k hk
        rcases Nat.lt_or_eq_of_le hk with hk1 | hk1
        · have hlt : (t.halls.take k).length = k := by simp; omega
          have hsn := recs_take (enc := hallC) (d := default) hk1
          simp only [hallC] at hsn
          simp only [townC, slH, slL]; simp (maxSteps := 4000000) only [go_sem, seval]
          (repeat' (first
 | ((omega))
 | refine awp_seqK ?_
 | refine kt ?_
 | refine And.intro ?_ ?_
 | ((first | refine awp_stp rfl ?_ | refine awp_draw (by kernel_rfl) (by kernel_rfl) ?_ | refine Imp.le2 ?_ | refine go_split (fun _h => ?_) (fun _h => ?_)) <;> try simp (maxSteps := 4000000) only [go_sem, seval, hlt, hsn])
 | intro _h
 | refine awp_block ?_
 | refine awp_scope ?_
 | refine cond_b ?_ ?_
 | (show heapOK _ _ = true; kernel_rfl)
 | (show heapOK2 _ _ = true; kernel_rfl)
 | (omega)))
          all_goals trace_state
        · subst hk1
          have hlt : (t.halls.take t.halls.length) = t.halls := by simp
          simp only [townC, slH, slL]; simp (maxSteps := 4000000) only [go_sem, seval, hlt]
          (repeat' (first
 | ((exfalso; omega))
 | refine awp_seqK ?_
 | refine kt ?_
 | refine And.intro ?_ ?_
 | ((first | refine awp_stp rfl ?_ | refine awp_draw (by kernel_rfl) (by kernel_rfl) ?_ | refine Imp.le2 ?_ | refine go_split (fun _h => ?_) (fun _h => ?_)) <;> try simp (maxSteps := 4000000) only [go_sem, seval, hlt])
 | intro _h
 | refine awp_block ?_
 | refine awp_scope ?_
 | refine cond_b ?_ ?_
 | (show heapOK _ _ = true; kernel_rfl)
 | (show heapOK2 _ _ = true; kernel_rfl)
 | (omega)))
          all_goals trace_state
end Go.Am
